/-
  The data of the lifted semantics, and the evaluator: Go code run over trees, without memory and without addresses. No conditions.
-/
import Derived.Calls
import GoSem.ClaimData
import Derived.Below
import Derived.KernelRfl
import Derived.Laws.Rows
import Derived.Laws.CopyRow
import Derived.Laws.NewFold
import Derived.ChangeKeysEq
import Derived.Laws.Cover1
import Derived.Laws.StructEq
import Derived.Laws.BytesString
import Derived.Lib.Strings
import Derived.Laws.MakeOwn
set_option linter.unusedVariables false
set_option linter.unusedSimpArgs false
namespace Go.Proofs.YtlkjnlfddadlmaaGreatDoor.V
inductive T (α : Type) where
 | int (k : IntKind) (n : Int)
 | bool (b : Bool)
 | str (s : List UInt8)
 | sl (a : α) (tag : Nat) (sz : Nat) (n : Nat) (cs : List (T α))
 | dead (a : α)
 | nili
 | ifc (a : α)
inductive Root where
 | sl (d : Nat)
 | ex (j : Nat)
 deriving DecidableEq
inductive C (α : Type) where
 | t (x : T α)
 | ptr (a : α) (r : Root) (p : List Nat) (off : Nat)
 | bor (a : α) (r : Root) (p : List Nat) (i off sz n : Nat)
 | rptr (a : α) (cs : List (T α))
 | nilp
 | fn (f : Nat) (caps : List (C α))
 | nilf
 | lst (a : α) (sz n : Nat) (cs : List (C α))
inductive X (α : Type) where
 | c (x : C α)
 | agg (cs : List (C α))
 | box (a : α) (cs : List (C α))
 | tup (xs : List (X α))
 | undef
structure St (α : Type) where
 s : Nat → X α
 e : List (List (C α))
abbrev TU := T Unit
abbrev CU := C Unit
abbrev XU := X Unit
abbrev SU := St Unit
structure Ty where
 ok : Bool
 sz : Nat
 agg : Bool
 zs : List CU
 fs : List (Nat × Nat)
 el : Option Nat
 bytes : Nat
 flat : Bool
 kind : Nat
variable {α : Type}
def upd {β : Type} (f : Nat → β) (d : Nat) (x : β) : Nat → β := fun i => if i = d then x else f i
def sub : List (T α) → List Nat → Option (List (T α))
 | cs, [] => some cs
 | cs, i :: p => match cs[i]? with
  | some (.sl _ 0 _ _ ds) => sub ds p
  | _ => none
def xJ : List (T α) → List Nat → Nat → T α → Option (List (T α))
 | cs, [], off, y => if off < cs.length then some (cs.set off y) else none
 | cs, i :: p, off, y => match cs[i]? with
  | some (.sl a 0 sz n ds) => (xJ ds p off y).map fun ds' => cs.set i (.sl a 0 sz n ds')
  | _ => none
def y9 : List (C α) → List Nat → Option (List (C α))
 | cs, [] => some cs
 | cs, i :: p => match cs[i]? with
  | some (.t (.sl _ 0 _ _ ds)) => (sub ds p).map (·.map .t)
  | _ => none
def kU : List (C α) → List Nat → Nat → C α → Option (List (C α))
 | cs, [], off, y => if off < cs.length then some (cs.set off y) else none
 | cs, i :: p, off, .t y => match cs[i]? with
  | some (.t (.sl a 0 sz n ds)) => (xJ ds p off y).map fun ds' => cs.set i (.t (.sl a 0 sz n ds'))
  | _ => none
 | _, _ :: _, _, _ => none
def zT : List (X α) → List (C α)
 | [] => []
 | .c x :: xs => x :: zT xs
 | .agg cs :: xs => cs ++ zT xs
 | _ :: xs => zT xs
def yH : List (X α) → List (C α) → List (X α)
 | [], _ => []
 | .c x :: xs, cs => .c (cs.head?.getD x) :: yH xs cs.tail
 | .agg ds :: xs, cs => .agg (cs.take ds.length) :: yH xs (cs.drop ds.length)
 | x :: xs, cs => x :: yH xs cs
def zA (S : St α) : Root → Option (List (C α))
 | .sl d => match S.s d with
  | .box _ cs => some cs
  | .c x => some [x]
  | .agg cs => some cs
  | .tup xs => some (zT xs)
  | _ => none
 | .ex j => S.e[j]?
def at_ (S : St α) (r : Root) (p : List Nat) (off : Nat) : Option (C α) :=
 ((zA S r).bind (y9 · p)).bind (·[off]?)
def rdc (r : Root) (p : List Nat) (i : Nat) : C α → C α
 | .t (.sl a 0 sz n _) => .bor a r p i 0 sz n
 | .lst a _ _ _ => .t (.dead a)
 | c => c
def jT (S : St α) (r : Root) (p : List Nat) (off : Nat) : Nat → Option (List (C α))
 | 0 => some []
 | n + 1 => (at_ S r p off).bind fun c => (jT S r p (off + 1) n).map fun cs => rdc r p off c :: cs
def x7 : X α → List (C α) → X α
 | .box a _, cs => .box a cs
 | .c _, [x] => .c x
 | .agg _, cs => .agg cs
 | .tup xs, cs => .tup (yH xs cs)
 | x, _ => x
def zM (S : St α) (r : Root) (cs : List (C α)) : St α :=
 match r with
 | .sl d => { S with s := upd S.s d (x7 (S.s d) cs) }
 | .ex j => { S with e := S.e.set j cs }
def z7 (S : St α) (r : Root) (p : List Nat) (off : Nat) (c : C α) : Option (St α) :=
 (zA S r).bind fun cs => (kU cs p off c).map (zM S r)
def pre : List Nat → List Nat → Bool
 | [], _ => true
 | x :: xs, y :: ys => x == y && pre xs ys
 | _ :: _, [] => false
mutual
def zS (r : Root) (q : List Nat) : C α → C α
 | .ptr a r' p off => if r = r' ∧ pre q p then .t (.dead a) else .ptr a r' p off
 | .bor a r' p i off sz n => if r = r' ∧ pre q (p ++ [i]) then .t (.dead a) else .bor a r' p i off sz n
 | .fn f caps => .fn f (yT r q caps)
 | .t x => .t x
 | .rptr a cs => .rptr a cs
 | .nilp => .nilp
 | .nilf => .nilf
 | .lst a sz n cs => .lst a sz n (yT r q cs)
def yT (r : Root) (q : List Nat) : List (C α) → List (C α)
 | [] => []
 | c :: cs => zS r q c :: yT r q cs
end
mutual
def z6 (r : Root) (q : List Nat) : X α → X α
 | .c x => .c (zS r q x)
 | .agg cs => .agg (yT r q cs)
 | .box a cs => .box a (yT r q cs)
 | .tup xs => .tup (xC r q xs)
 | .undef => .undef
def xC (r : Root) (q : List Nat) : List (X α) → List (X α)
 | [] => []
 | x :: xs => z6 r q x :: xC r q xs
end
def kill (r : Root) (q : List Nat) (S : St α) : St α := { s := fun i => z6 r q (S.s i), e := S.e.map (yT r q) }
mutual
def retag : T α → T α
 | .sl a tag sz n cs => .sl a (tag + 1) sz n (yD cs)
 | .int k n => .int k n
 | .bool b => .bool b
 | .str s => .str s
 | .dead a => .dead a
 | .nili => .nili
 | .ifc a => .ifc a
def yD : List (T α) → List (T α)
 | [] => []
 | x :: xs => retag x :: yD xs
end
mutual
def up : T α → T α
 | .sl a tag sz n cs => .sl a (if tag = 0 then 0 else tag + 1) sz n (ups cs)
 | .int k n => .int k n
 | .bool b => .bool b
 | .str s => .str s
 | .dead a => .dead a
 | .nili => .nili
 | .ifc a => .ifc a
def ups : List (T α) → List (T α)
 | [] => []
 | x :: xs => up x :: ups xs
end
mutual
def down : T α → Option (T α)
 | .sl a tag sz n cs => if tag = 1 then none else (qL cs).map fun ds => .sl a (tag - 1) sz n ds
 | .int k n => some (.int k n)
 | .bool b => some (.bool b)
 | .str s => some (.str s)
 | .dead a => some (.dead a)
 | .nili => some .nili
 | .ifc a => some (.ifc a)
def qL : List (T α) → Option (List (T α))
 | [] => some []
 | x :: xs => (down x).bind fun y => (qL xs).map fun ys => y :: ys
end
def x6 (S : St α) (r : Root) (p : List Nat) (i off m : Nat) : Option (List (T α)) :=
 match at_ S r p i with
 | some (.t (.sl _ 0 _ _ ds)) => if off + m ≤ ds.length then some ((ds.drop off).take m) else none
 | _ => none
def x9 : C α → Bool
 | .t (.sl _ 0 _ _ _) => true
 | .lst _ _ _ _ => true
 | _ => false
def zN1 : X α → Bool
 | .c x => x9 x
 | .agg cs => cs.any x9
 | .box _ _ => true
 | .tup _ => true
 | .undef => false
def yQ : X α → Bool
 | .c x => x9 x
 | .agg cs => cs.any x9
 | .box _ _ => true
 | .tup xs => xs.any zN1
 | .undef => false
def xL (S : St α) (a : α) (r : Root) (p : List Nat) (i off sz n : Nat) : Option (T α × St α) :=
 match at_ S r p i with
 | some (.t (.sl b 0 sz' _ ds)) => if off + n * sz ≤ ds.length ∧ sz = sz' ∧ 0 < sz then
   (z7 S r p i (.t (.dead b))).map fun S' => (.sl a 0 sz n ((ds.drop off).take (n * sz)), kill r (p ++ [i]) S')
  else none
 | _ => none
end Go.Proofs.YtlkjnlfddadlmaaGreatDoor.V
namespace Go.Proofs.YtlkjnlfddadlmaaGreatDoor.V
structure Ctx where
 ty : Nat → Ty
 th : Nat → Nat
 vs : Nat → List Nat
 ts : Nat → List Nat
 act : Nat → Bool
 plc : Nat → List Nat
 nst : Nat → Bool
 tke : Nat → Bool
 dpt : Nat → Nat
 mov : Nat → List Nat
 good : Nat → Bool
 ord : Nat → Nat → Nat → Bool
 shr : Nat → Nat → Nat → List Nat
 pnd : Nat → Nat → Nat → List Nat
 pal : Nat → Nat → Nat → List Nat
 prm : Nat → Nat → List Nat
 tl : Nat → Nat → Option Nat
 orc : Nat → Option (List XU → Option XU)
 gro : Nat → Option (Nat × Nat)
def zCv : CU → Value → Bool
 | .t (.int k n), .int k' m => decide (k = k') && decide (n = m)
 | .t (.bool b), .bool c => b == c
 | .t (.str []), .string s => s.data == #[]
 | .t (.sl _ 0 _ 0 []), .slice none 0 0 => true
 | .t .nili, .nilIface => true
 | .nilp, .pointer none => true
 | .nilf, .nilFunc => true
 | _, _ => false
def q6 : List CU → List Value → Bool
 | [], [] => true
 | c :: cs, v :: vs => zCv c v && q6 cs vs
 | _, _ => false
section
variable (cx : Ctx) (f : Nat)
def zK0 (t : Nat) : Bool := decide (t < cx.th f) || (cx.vs f).contains t
def zB (t : Nat) : Bool := zK0 cx f t || (cx.ts f).contains t
def elSz (t : Nat) : Nat := match (cx.ty t).el with | some e => (cx.ty e).sz | none => 0
def rJ (t : Nat) : Value → Option XU
 | .int k n => some (.c (.t (.int k n)))
 | .bool b => some (.c (.t (.bool b)))
 | .string s => some (.c (.t (.str s.data.toList)))
 | .slice none 0 0 => if (cx.ty t).ok then some (.c (.t (.sl () 0 (elSz cx t) 0 []))) else none
 | .nilIface => some (.c (.t .nili))
 | .pointer none => some (.c .nilp)
 | .nilFunc => some (.c .nilf)
 | .agg vs => if (cx.ty t).agg && q6 (cx.ty t).zs vs.toList then some (.agg (cx.ty t).zs) else none
 | _ => none
def mA {α : Type} (r : Root) (i : Nat) : List (C α) → List (C α)
 | [] => []
 | c :: cs => rdc r [] i c :: mA r (i + 1) cs
def rdS {α : Type} (v : Bool) (t : Nat) : X α → Option (X α)
 | .undef => none
 | .box a cs => if v then some (.c (.ptr a (.sl t) [] 0)) else some (.box a cs)
 | .c x => if v then some (.c (rdc (.sl t) [] 0 x)) else some (.c x)
 | .agg cs => if v then some (.agg (mA (.sl t) 0 cs)) else some (.agg cs)
 | .tup xs => if v then none else some (.tup xs)
def opv (S : SU) (t : Nat) : Operand → Option XU
 | .tmp d => rdS (zB cx f d) d (S.s d)
 | .const v => rJ cx t v
 | .func g => some (.c (.fn g []))
 | .global _ => none
def clr {α : Type} (S : St α) : Operand → St α
 | .tmp d => if zB cx f d then S else if yQ (S.s d) then { S with s := upd S.s d .undef } else S
 | _ => S
def put (S : SU) (dst : Option Nat) (x : XU) : SU :=
 match dst with
 | some d => { S with s := upd S.s d x }
 | none => S
def jN : XU → Option (List CU)
 | .c x => some [x]
 | .agg cs => some cs
 | _ => none
def mkX (t : Nat) (cs : List CU) : Option XU :=
 if (cx.ty t).agg then (if cs.length = (cx.ty t).sz then some (.agg cs) else none) else match cs with
  | [x] => some (.c x)
  | _ => none
def dE : Option XU → Option Int
 | some (.c (.t (.int _ n))) => some n
 | _ => none
def v1 : Option XU → Option Bool
 | some (.c (.t (.bool b))) => some b
 | _ => none
def bvOp (op : BinOp) (k : IntKind) (x y : Int) : Option TU :=
 let a := BitVec.ofInt k.bits x
 let b := BitVec.ofInt k.bits y
 match op with
 | .and => some (.int k (k.wrap (a &&& b).toNat))
 | .or => some (.int k (k.wrap (a ||| b).toNat))
 | .xor => some (.int k (k.wrap (a ^^^ b).toNat))
 | .andNot => some (.int k (k.wrap (a &&& ~~~b).toNat))
 | _ => none
def zA1 (op : BinOp) (k : IntKind) (x y : Int) : Option TU :=
 match op with
 | .add => some (.int k (k.wrap (x + y)))
 | .sub => some (.int k (k.wrap (x - y)))
 | .mul => some (.int k (k.wrap (x * y)))
 | .quo => if y = 0 then none else some (.int k (k.wrap (x.tdiv y)))
 | .rem => if y = 0 then none else some (.int k (x.tmod y))
 | .eql => some (.bool (x == y))
 | .neq => some (.bool (x != y))
 | .lss => some (.bool (decide (x < y)))
 | .leq => some (.bool (decide (x ≤ y)))
 | .gtr => some (.bool (decide (x > y)))
 | .geq => some (.bool (decide (x ≥ y)))
 | op => bvOp op k x y
def zJo (op : BinOp) (k : IntKind) (x y : Int) : Option TU :=
 if y < 0 then none else match op with
  | .shl => some (.int k (k.wrap (x * 2 ^ (min y.toNat k.bits))))
  | .shr => some (.int k (x.fdiv (2 ^ (min y.toNat k.bits))))
  | _ => none
def zEx (op : BinOp) (x y : List UInt8) : Option TU :=
 match op with
 | .add => if x.length + y.length ≤ maxLen then some (.str (x ++ y)) else none
 | .eql => some (.bool (x == y))
 | .neq => some (.bool (!(x == y)))
 | .lss => some (.bool (Op.bytesLess x y))
 | .leq => some (.bool (Op.bytesLess x y || x == y))
 | .gtr => some (.bool (!(Op.bytesLess x y || x == y)))
 | .geq => some (.bool (!Op.bytesLess x y))
 | _ => none
def m8 (op : BinOp) (same : Bool) : Option TU :=
 match op with
 | .eql => some (.bool same)
 | .neq => some (.bool (!same))
 | _ => none
def rG (kd : Nat) (kc : Bool) (op : BinOp) : CU → CU → Option TU
 | .t (.int k x), .t (.int k' y) => match op with
  | .shl => zJo .shl k x y
  | .shr => zJo .shr k x y
  | op => if k = k' then zA1 op k x y else none
 | .t (.str x), .t (.str y) => zEx op x y
 | .t (.bool x), .t (.bool y) => if kd = 5 then m8 op (x == y) else none
 | .nilp, .nilp => if kd = 6 then m8 op true else none
 | .nilp, .ptr _ _ _ _ => if kd = 6 then m8 op false else none
 | .ptr _ _ _ _, .nilp => if kd = 6 then m8 op false else none
 | .t .nili, .t .nili => if kd = 7 && kc then m8 op true else none
 | .t .nili, .t (.ifc _) => if kd = 7 then m8 op false else none
 | .t (.ifc _), .t .nili => if kd = 7 then m8 op false else none
 | _, _ => none
def unV (op : UnOp) : CU → Option TU
 | .t (.bool b) => if op = .not then some (.bool (!b)) else none
 | .t (.int k n) => match op with
  | .neg => some (.int k (k.wrap (0 - n)))
  | _ => none
 | _ => none
def zDc (b : UInt8) : TU := .int .u8 b.toNat
def zFv : TU → Option UInt8
 | .int .u8 n => some n.toNat.toUInt8
 | _ => none
mutual
def qH (S : SU) : CU → Option CU
 | .t x => some (.t (retag x))
 | .bor _ r p i off sz n => if 0 < sz then (x6 S r p i off (n * sz)).map fun ds => .t (.sl () 1 sz n (yD ds)) else none
 | .rptr a cs => some (.rptr a (yD cs))
 | .nilp => some .nilp
 | .nilf => some .nilf
 | .fn g [] => some (.fn g [])
 | .lst _ sz n cs => (jK S cs).bind fun ds => (mQ ds).map fun ts => .t (.sl () 1 sz n ts)
 | _ => none
def jK (S : SU) : List CU → Option (List CU)
 | [] => some []
 | c :: cs => (qH S c).bind fun x => (jK S cs).map fun xs => x :: xs
def mQ : List CU → Option (List TU)
 | [] => some []
 | .t x :: cs => (mQ cs).map fun xs => x :: xs
 | _ => none
end
def bV (S : SU) : XU → Option XU
 | .c x => (qH S x).map .c
 | .agg cs => (jK S cs).map .agg
 | _ => none
mutual
def yS : CU → SU → Option (TU × SU)
 | .t x, S => some (x, S)
 | .bor a (.sl d) p i off sz n, S => xL S a (.sl d) p i off sz n
 | .lst a sz n cs, S => (xZ cs S).map fun r => (.sl a 0 sz n r.1, r.2)
 | _, _ => none
def xZ : List CU → SU → Option (List TU × SU)
 | [], S => some ([], S)
 | c :: cs, S => (yS c S).bind fun r => (xZ cs r.2).map fun q => (r.1 :: q.1, q.2)
end
def qJ {α : Type} : Option (C α) → Bool
 | some (.t (.sl _ 0 _ _ _)) => true
 | _ => false
mutual
def yL {α : Type} (S : St α) : C α → Bool
 | .ptr _ r p _ => p.isEmpty || qJ (at_ S r p.dropLast (p.getLast?.getD 0))
 | .bor _ r p i _ _ _ => qJ (at_ S r p i)
 | .fn _ caps => xN S caps
 | .lst _ _ _ cs => xN S cs
 | .t _ => true
 | .rptr _ _ => true
 | .nilp => true
 | .nilf => true
def xN {α : Type} (S : St α) : List (C α) → Bool
 | [] => true
 | c :: cs => yL S c && xN S cs
end
def keep : CU → SU → Option (CU × SU)
 | .lst a sz n cs, S => (yS (.lst a sz n cs) S).map fun r => (.t r.1, r.2)
 | .bor a (.sl d) p i off sz n, S => if zK0 cx f d then some (.bor a (.sl d) p i off sz n, S) else (xL S a (.sl d) p i off sz n).map fun r => (.t r.1, r.2)
 | .bor a (.ex j) p i off sz n, S => if cx.tke f then (xL S a (.ex j) p i off sz n).map fun r => (.t r.1, r.2) else some (.bor a (.ex j) p i off sz n, S)
 | c, S => some (c, S)
def zHn (cells : List CU) (off : Nat) (cs : List CU) : List CU := cells.take off ++ cs ++ cells.drop (off + cs.length)
def jU (place : Nat → Option (Nat × Nat)) : List (Nat × Operand) → List CU → SU → Option (List CU × SU)
 | [], cells, S => some (cells, S)
 | (i, o) :: rest, cells, S => (place i).bind fun q => (opv cx f S q.2 o).bind fun x => (jN x).bind fun cs =>
   if cs.length = (cx.ty q.2).sz ∧ q.1 + cs.length ≤ cells.length then jU place rest (zHn cells q.1 cs) (clr cx f S o) else none
def pS (x : CU) (n : Nat) : Option CU :=
 match x with
 | .ptr a r p off => some (.ptr a r p (off + n))
 | .rptr a cs => if n ≤ cs.length then some (.rptr a (cs.drop n)) else none
 | _ => none
def dA {β : Type} (n : Nat) (xs : List β) : List β := (List.replicate n xs).flatten
def vU (x : CU) (lo hi : Option Int) : Option CU :=
 match x with
 | .t (.str s) => let l := lo.getD 0; let h := hi.getD s.length
  if 0 ≤ l ∧ l ≤ h ∧ h ≤ s.length then some (.t (.str ((s.drop l.toNat).take (h - l).toNat))) else none
 | .bor a r p i off sz n => let l := lo.getD 0; let h := hi.getD n
  if 0 ≤ l ∧ l ≤ h ∧ h ≤ n then some (.bor a r p i (off + l.toNat * sz) sz (h - l).toNat) else none
 | .t (.sl a (tag + 1) sz n cs) => let l := lo.getD 0; let h := hi.getD n
  if 0 ≤ l ∧ l ≤ h ∧ h ≤ n then some (.t (.sl a (tag + 1) sz (h - l).toNat ((cs.drop (l.toNat * sz)).take ((h - l).toNat * sz)))) else none
 | _ => none
def dN (S : SU) : Option Operand → Option (Option Int)
 | none => some none
 | some o => (dE (opv cx f S 0 o)).map some
def rR : CU → Option Int
 | .t (.str s) => some s.length
 | .t (.sl _ _ _ n _) => some n
 | .bor _ _ _ _ _ _ n => some n
 | .lst _ _ n _ => some n
 | _ => none
def uC (S : SU) : CU → Option (Nat × Nat × List TU)
 | .t (.sl _ _ sz n cs) => some (sz, n, cs)
 | .bor _ r p i off sz n => (x6 S r p i off (n * sz)).map fun cs => (sz, n, cs)
 | _ => none
def vL : List TU → Option (List UInt8)
 | [] => some []
 | x :: xs => (zFv x).bind fun b => (vL xs).map fun bs => b :: bs
def mH (so : Bool) (ks kd : Nat) (S : SU) (x : CU) : Option CU :=
 match x with
 | .t (.int _ n) => if so then (match kd with
  | 1 => some (.t (.int .i64 (IntKind.wrap .i64 n)))
  | 2 => some (.t (.int .u8 (IntKind.wrap .u8 n)))
  | _ => none) else none
 | .t (.str s) => if so ∧ kd = 3 then some (.t (.str s)) else none
 | x => if kd = 3 ∧ ks = 4 then (uC S x).bind fun q => if q.1 = 1 then (vL q.2.2).map fun bs => .t (.str bs) else none else none
end
end Go.Proofs.YtlkjnlfddadlmaaGreatDoor.V
namespace Go.Proofs.YtlkjnlfddadlmaaGreatDoor.V
def jC (cx : Ctx) (t : Nat) : Nat := if (cx.ty t).ok then (cx.ty t).kind else 0
abbrev zX := Nat → List XU → List (List CU) → Option (XU × List (List CU))
section
variable (cx : Ctx) (f : Nat) (call : zX)
def w9 : List XU → Nat → Nat
 | [], _ => 0
 | _, 0 => 0
 | x :: xs, i + 1 => (zT [x]).length + w9 xs i
def vN (S : SU) (o : Operand) (i : Nat) : Option XU :=
 match o with
 | .tmp d => match S.s d with
  | .tup xs => (xs[i]?).bind fun y => if yQ y then (if zB cx f d then (match y with
    | .c x => some (.c (rdc (.sl d) [] (w9 xs i) x))
    | .agg cs => some (.agg (mA (.sl d) (w9 xs i) cs))
    | _ => none) else none) else some y
  | _ => none
 | _ => none
def q5 (S : SU) : List Operand → List Nat → Option (List XU)
 | [], _ => some []
 | o :: os, ts => (opv cx f S (ts.head?.getD 0) o).bind fun x => (bV S x).bind fun y => (q5 S os ts.tail).map fun ys => y :: ys
mutual
def qU : CU → Option CU
 | .t x => (down x).map .t
 | .ptr a r p off => some (.ptr a r p off)
 | .bor a r p i off sz n => some (.bor a r p i off sz n)
 | .rptr _ _ => none
 | .nilp => some .nilp
 | .nilf => some .nilf
 | .fn g caps => (xQ caps).map (.fn g)
 | .lst _ _ _ _ => none
def xQ : List CU → Option (List CU)
 | [] => some []
 | x :: xs => (qU x).bind fun y => (xQ xs).map fun ys => y :: ys
end
mutual
def kZ : XU → Option XU
 | .c x => (qU x).map .c
 | .agg cs => (xQ cs).map .agg
 | .box a cs => (xQ cs).map (.box a)
 | .tup xs => (mV xs).map .tup
 | .undef => none
def mV : List XU → Option (List XU)
 | [] => some []
 | x :: xs => (kZ x).bind fun y => (mV xs).map fun ys => y :: ys
end
def quietCall (S : SU) (fo : Operand) (args : List Operand) (ts : List Nat) : Option XU :=
 match opv cx f S 0 fo with
 | some (.c (.fn g [])) => if cx.act g then none else (q5 cx f S args ts).bind fun xs => (call g xs []).bind fun r => kZ r.1
 | _ => none
def mm (b : Builtin) (x y : Int) : Option Int :=
 match b with
 | .max => some (max x y)
 | .min => some (min x y)
 | _ => none
def dB (S : SU) : List Operand → Option (List CU)
 | [] => some []
 | o :: os => (opv cx f S 0 o).bind fun x => match x with
  | .c c => if x9 c then none else (dB S os).map fun cs => c :: cs
  | _ => none
def elOk (t sz : Nat) : Bool := (cx.ty t).ok && match (cx.ty t).el with
 | some el => (cx.ty el).ok && (cx.ty el).sz == sz
 | none => false
def aA (t : Nat) : CU → Bool
 | .t (.str _) => jC cx t == 3
 | .bor _ _ _ _ _ sz _ => elOk cx t sz
 | .t (.sl _ _ sz _ _) => elOk cx t sz
 | _ => false
def j8 : Option XU → Option Int
 | some (.c (.t (.int .i64 n))) => some n
 | _ => none
def mmV (b : Builtin) (x y : Option Int) (S : SU) : Option (XU × SU) :=
 match x, y with
 | some a, some b' => (mm b a b').map fun n => (.c (.t (.int .i64 n)), S)
 | _, _ => none
def zD2 (t : Nat) : CU → Bool
 | .t (.str _) => jC cx t == 3
 | _ => (cx.ty t).ok && (cx.ty t).el.isSome
def pV (S : SU) (c : Call) : Option XU :=
 match c.callee, c.args.toList with
 | .value (.func g), [.const (.slice none 0 0), y] => match cx.gro g, j8 (opv cx f S 0 y) with
  | some q, some n => if 0 ≤ n ∧ n * q.2 ≤ 140737488355328 ∧ n ≤ maxLen then some (.c (.t (.sl () 0 q.1 0 []))) else none
  | _, _ => none
 | _, _ => none
def zFm (c : Call) : Bool :=
 match c.callee, c.args.toList with
 | .value (.func g), [.const (.slice none 0 0), _] => (cx.gro g).isSome
 | _, _ => false
def qcall (S : SU) (t : Nat) (c : Call) : Option (XU × SU) :=
 match c.callee, c.args.toList, c.argTypes.toList with
 | .builtin .len, [x], [t'] => match opv cx f S t' x with
  | some (.c z) => if zD2 cx t' z then (rR z).map fun n => (.c (.t (.int .i64 n)), S) else none
  | _ => none
 | .builtin b, [x, y], _ => mmV b (j8 (opv cx f S t x)) (j8 (opv cx f S t y)) S
 | .value fo, args, ts => if zFm cx c then (pV cx f S c).map fun x => (x, S) else (quietCall cx f call S fo args ts).map fun x => (x, S)
 | _, _, _ => none
def wF : Operand → Bool
 | .const _ => true
 | _ => false
def zR5 (sz n : Nat) (cs : List CU) : CU :=
 match mQ cs with
 | some ts => .t (.sl () 0 sz n ts)
 | none => .lst () sz n cs
def qval (S : SU) (t : Nat) : Op → Option (XU × SU)
 | .move x => (opv cx f S t x).map fun y => (y, clr cx f S x)
 | .pick c a b => match v1 (opv cx f S t c) with
  | some true => (opv cx f S t a).map fun y => (y, clr cx f S a)
  | some false => (opv cx f S t b).map fun y => (y, clr cx f S b)
  | none => none
 | .alloc e => if (cx.ty e).ok then some (.box () (cx.ty e).zs, S) else none
 | .box e x => (opv cx f S e x).bind fun y => (jN y).bind fun cs => if (cx.ty e).ok ∧ cs.length = (cx.ty e).sz then some (.box () cs, clr cx f S x) else none
 | .build e ps => if (cx.ty e).ok ∧ (cx.ty e).agg ∧ (cx.ty e).fs ≠ [] ∧ ((cx.ty e).fs.all fun q => (cx.ty q.2).ok) then (jU cx f (fun i => (cx.ty e).fs[i]?) ps.toList (cx.ty e).zs S).map fun r => (.agg r.1, r.2) else none
 | .buildSlice e len ps => match (cx.ty e).el with
  | some el => if (cx.ty el).ok ∧ (cx.ty e).ok ∧ len * (cx.ty el).sz ≤ 16777216 then (jU cx f (fun i => if i < len then some (i * (cx.ty el).sz, el) else none) ps.toList (dA len (cx.ty el).zs) S).map fun r => (.c (zR5 (cx.ty el).sz len r.1), r.2) else none
  | none => none
 | .load e a => match opv cx f S 0 a with
  | some (.c (.ptr _ r p off)) => if (cx.ty e).ok then (jT S r p off (cx.ty e).sz).bind fun cs => (mkX cx e cs).map fun x => (x, S) else none
  | some (.c (.rptr _ cs)) => if (cx.ty e).ok ∧ (cx.ty e).sz ≤ cs.length then (mkX cx e ((cs.take (cx.ty e).sz).map .t)).map fun x => (x, S) else none
  | _ => none
 | .fieldAddr e x i => match (cx.ty e).fs[i]?, opv cx f S 0 x with
  | some (off, ft), some (.c y) => if (cx.ty e).ok ∧ (cx.ty ft).ok ∧ 0 < (cx.ty ft).sz then (pS y off).map fun z => (.c z, S) else none
  | _, _ => none
 | .field e x i => match (cx.ty e).fs[i]?, opv cx f S 0 x with
  | some (off, ft), some (.agg cs) => if (cx.ty e).ok ∧ (cx.ty ft).ok ∧ off + (cx.ty ft).sz ≤ cs.length then (mkX cx ft ((cs.drop off).take (cx.ty ft).sz)).map fun y => (y, clr cx f S x) else none
  | _, _ => none
 | .indexAddr e x i => match (cx.ty e).el, opv cx f S e x, dE (opv cx f S 0 i) with
  | some el, some (.c (.bor _ r p j off sz n)), some k => if (cx.ty e).ok ∧ 0 ≤ k ∧ k < n ∧ sz = (cx.ty el).sz ∧ (cx.ty el).ok then some (.c (.ptr () r (p ++ [j]) (off + k.toNat * sz)), S) else none
  | some el, some (.c (.t (.sl _ (_ + 1) sz n cs))), some k => if (cx.ty e).ok ∧ 0 ≤ k ∧ k < n ∧ sz = (cx.ty el).sz ∧ (cx.ty el).ok then some (.c (.rptr () (cs.drop (k.toNat * sz))), S) else none
  | _, _, _ => none
 | .index e x i => match opv cx f S 0 x, dE (opv cx f S 0 i) with
  | some (.c (.t (.str s))), some k => if jC cx e = 3 ∧ 0 ≤ k ∧ k < s.length then some (.c (.t (zDc (s.getD k.toNat 0))), S) else none
  | _, _ => none
 | .binOp op xt x y yt => match opv cx f S xt x, opv cx f S yt y with
  | some (.c a), some (.c b) => (rG (jC cx xt) (wF x || wF y) op a b).map fun z => (.c (.t z), S)
  | _, _ => none
 | .unOp op xt x => match opv cx f S xt x with
  | some (.c a) => (unV op a).map fun z => (.c (.t z), S)
  | _ => none
 | .convert src dst x => match opv cx f S src x with
  | some (.c a) => (mH (cx.ty src).ok (jC cx src) (jC cx dst) S a).map fun z => (.c z, S)
  | _ => none
 | .extract x i => (vN cx f S x i).map fun y => (y, S)
 | .slice e x lo hi none => match opv cx f S e x, dN cx f S lo, dN cx f S hi with
  | some (.c y), some l, some h => if aA cx e y then (vU y l h).map fun z => (.c z, S) else none
  | _, _, _ => none
 | .makeSlice e l c => match (cx.ty e).el, dE (opv cx f S 0 l), dE (opv cx f S 0 c) with
  | some el, some n, some m => if 0 ≤ n ∧ n ≤ m ∧ m * (cx.ty el).bytes ≤ 140737488355328 ∧ m ≤ maxLen ∧ (cx.ty e).ok ∧ (cx.ty el).ok ∧ 0 < (cx.ty el).sz then (mQ (cx.ty el).zs).map fun zs => (.c (.t (.sl () 0 (cx.ty el).sz n.toNat (dA n.toNat zs))), S) else none
  | _, _, _ => none
 | .makeFunc (.func g) first caps => if first = #[] then (dB cx f S caps.toList).map fun cs => (.c (.fn g cs), S) else none
 | .call c => qcall cx f call S t c
 | .nilCheck x => match opv cx f S 0 x with
  | some (.c (.ptr a r p off)) => some (.c (.ptr a r p off), S)
  | some (.c (.rptr a cs)) => some (.c (.rptr a cs), S)
  | _ => none
 | _ => none
def vF (d : Nat) : CU → SU → Option (CU × SU)
 | .bor a (.sl d') p i off sz n, S => if d' = d then (xL S a (.sl d') p i off sz n).map fun r => (.t r.1, r.2) else keep cx f (.bor a (.sl d') p i off sz n) S
 | c, S => keep cx f c S
def uF (d : Nat) : List CU → SU → Option (List CU × SU)
 | [], S => some ([], S)
 | c :: cs, S => (vF cx f d c S).bind fun r => (uF d cs r.2).map fun q => (r.1 :: q.1, q.2)
def vY (d : Nat) : XU → SU → Option (XU × SU)
 | .c x, S => (vF cx f d x S).bind fun r => if yL r.2 r.1 then some (.c r.1, r.2) else none
 | .agg cs, S => (uF cx f d cs S).bind fun r => if xN r.2 r.1 then some (.agg r.1, r.2) else none
 | .box a cs, S => if xN S cs then some (.box a cs, S) else none
 | _, _ => none
mutual
def yB (bors : Bool) : CU → List Root
 | .ptr _ r _ _ => [r]
 | .bor _ r _ _ _ _ _ => if bors then [r] else []
 | .fn _ caps => zN bors caps
 | .lst _ _ _ cs => zN bors cs
 | _ => []
def zN (bors : Bool) : List CU → List Root
 | [] => []
 | c :: cs => yB bors c ++ zN bors cs
end
def xX : XU → List Root
 | .c x => yB true x
 | .agg cs => zN true cs
 | .box _ cs => zN true cs
 | _ => []
def sN (S : SU) (t : Nat) (d : Nat) (x : Operand) : Option SU :=
 (opv cx f S t x).bind fun y => (vY cx f d y (clr cx f S x)).bind fun r =>
  if zB cx f d then (if (xX r.1).contains (.sl d) then none else
   let S1 := kill (.sl d) [] r.2
   some { S1 with s := upd S1.s d r.1 })
  else some { r.2 with s := upd r.2.s d r.1 }
def x4 : Root → Bool
 | .ex _ => true
 | _ => false
def qF (r : Root) (p : List Nat) : Nat → List (List Nat) → List CU → SU → Option SU
 | _, _, [], S => some S
 | off, qs, c :: cs, S => (at_ S r p off).bind fun old =>
   if x9 old then (if cx.nst f && x4 r then none else (z7 S r p off (.t (.dead ()))).bind fun S0 =>
    (z7 (kill r (p ++ [off]) S0) r p off ((qs ++ [p ++ [off]]).foldl (fun c q => zS r q c) c)).bind fun S1 => qF r p (off + 1) (qs ++ [p ++ [off]]) cs S1)
   else (z7 S r p off (qs.foldl (fun c q => zS r q c) c)).bind fun S1 => qF r p (off + 1) qs cs S1
def toT : List TU → List CU := List.map .t
def nT (S : SU) (t : Nat) (a x : Operand) : Option SU :=
 match opv cx f S 0 a with
 | some (.c (.ptr _ r p off)) => (opv cx f S t x).bind fun y => (jN y).bind fun cs =>
   if (cx.ty t).ok ∧ cs.length = (cx.ty t).sz then
    match r, p with
    | .sl d, [] => (uF cx f d cs (clr cx f S x)).bind fun q => if xN q.2 q.1 then qF cx f r p off [] q.1 q.2 else none
    | _, _ => (xZ cs (clr cx f S x)).bind fun q => qF cx f r p off [] (toT q.1) q.2
   else none
 | _ => none
def vX (S : SU) (o : Operand) (t : Nat) : Option (List TU × Nat × Nat × SU) :=
 match opv cx f S t o with
 | some (.c (.t (.sl _ 0 sz n cs))) => some (cs, sz, n, clr cx f S o)
 | some (.c (.bor a r p i off sz n)) => if cx.nst f && x4 r then none else (xL S a r p i off sz n).bind fun q => match q.1 with
  | .sl _ _ _ _ cs => some (cs, sz, n, q.2)
  | _ => none
 | some (.c (.lst _ sz n cs)) => (xZ cs (clr cx f S o)).map fun q => (q.1, sz, n, q.2)
 | _ => none
def zRj : TU → Bool
 | .sl _ 0 _ _ _ => false
 | _ => true
def wL (S : SU) (o : Operand) (t : Nat) (flat : Bool) : Option (List TU × Nat × Nat × SU) :=
 match opv cx f S t o with
 | some (.c (.t (.sl _ (_ + 1) sz n cs))) => some (cs, sz, n, S)
 | some (.c (.t (.str s))) => some (s.map zDc, 1, s.length, S)
 | some (.c (.bor _ r p i off sz n)) => if flat then (x6 S r p i off (n * sz)).bind fun cs => if cs.all zRj then some (cs, sz, n, S) else none else vX cx f S o t
 | _ => vX cx f S o t
def zLx (t : Nat) : Bool := (cx.ty t).ok && ((cx.ty t).el.isSome || (cx.ty t).kind == 3)
def gS (S : SU) (ts : List Nat) (s x : Operand) : Option (XU × SU) :=
 match ts with
 | [t, t'] => match (cx.ty t).el with
  | some el => (wL cx f S x t' (cx.ty el).flat).bind fun (ys, sz', m, S1) => (vX cx f S1 s t).bind fun (zs, sz, n, S2) =>
    if sz = (cx.ty el).sz ∧ sz' = (cx.ty el).sz ∧ 0 < sz ∧ (cx.ty el).ok ∧ (cx.ty t).ok ∧ zLx cx t' ∧ n + m ≤ maxLen ∧ (n + m) * (cx.ty el).bytes ≤ 140737488355328 then
     some (.c (.t (.sl () 0 sz (n + m) (zs ++ ys))), S2) else none
  | none => none
 | _ => none
def dV : List Root → List Root → List Root
 | L, [] => L
 | L, r :: rs => if L.contains r then dV L rs else dV (L ++ [r]) rs
def mD (S : SU) : List Root → List Root
 | [] => []
 | r :: rs => zN false ((zA S r).getD []) ++ mD S rs
def v6 (S : SU) : Nat → List Root → List Root
 | 0, L => L
 | n + 1, L => v6 S n (dV L (mD S L))
def yZ : List Root → Root → Nat → Option Nat
 | [], _, _ => none
 | r :: rs, q, j => if r = q then some j else yZ rs q (j + 1)
mutual
def inC {α : Type} (L : List Root) (k : Nat) : C α → C α
 | .t x => .t (up x)
 | .ptr a r p off => match yZ L r k with
  | some j => .ptr a (.ex j) p off
  | none => .t (.dead a)
 | .bor a r p i off sz n => match yZ L r k with
  | some j => .bor a (.ex j) p i off sz n
  | none => .t (.dead a)
 | .fn g caps => .fn g (wE L k caps)
 | .rptr a cs => .rptr a (yD cs)
 | .nilp => .nilp
 | .nilf => .nilf
 | .lst a _ _ _ => .t (.dead a)
def wE {α : Type} (L : List Root) (k : Nat) : List (C α) → List (C α)
 | [] => []
 | c :: cs => inC L k c :: wE L k cs
end
def jP (L : List Root) (k j : Nat) : Option Root := if k ≤ j then L[j - k]? else none
mutual
def qO {α : Type} (L : List Root) (k : Nat) : C α → C α
 | .t x => .t x
 | .ptr a (.ex j) p off => match jP L k j with
  | some r => .ptr a r p off
  | none => .t (.dead a)
 | .bor a (.ex j) p i off sz n => match jP L k j with
  | some r => .bor a r p i off sz n
  | none => .t (.dead a)
 | .fn g caps => .fn g (xY L k caps)
 | .rptr a cs => .rptr a cs
 | .nilp => .nilp
 | .nilf => .nilf
 | .ptr a _ _ _ => .t (.dead a)
 | .bor a _ _ _ _ _ _ => .t (.dead a)
 | .lst a _ _ _ => .t (.dead a)
def xY {α : Type} (L : List Root) (k : Nat) : List (C α) → List (C α)
 | [] => []
 | c :: cs => qO L k c :: xY L k cs
end
def vW (S : SU) (L : List Root) (k : Nat) : CU → Option CU
 | .ptr a r p off => if (yZ L r k).isSome then some (inC L k (.ptr a r p off)) else none
 | .fn g caps => if (zN true caps).all (L.contains ·) then some (inC L k (.fn g caps)) else none
 | .bor a r p i off sz n => match yZ L r k with
  | some j => some (.bor a (.ex j) p i off sz n)
  | none => qH S (.bor a r p i off sz n)
 | c => if (yB true c).any (L.contains ·) then none else qH S c
def bJ (S : SU) (L : List Root) (k : Nat) : List CU → Option (List CU)
 | [] => some []
 | c :: cs => (vW S L k c).bind fun x => (bJ S L k cs).map fun xs => x :: xs
def rF (S : SU) (L : List Root) (k : Nat) : XU → Option XU
 | .c x => (vW S L k x).map .c
 | .agg cs => (bJ S L k cs).map .agg
 | _ => none
structure Row where
 t : TU
 r : Root
 p : List Nat
 i : Nat
def q8 {α : Type} (S : St α) (r : Root) (p : List Nat) (i : Nat) : Option (T α × St α) :=
 match at_ S r p i with
 | some (.t (.sl b 0 sz m ds)) => (z7 S r p i (.t (.dead b))).map fun S' => (.sl b 0 sz m ds, kill r (p ++ [i]) S')
 | _ => none
def tV : TU → Bool
 | .sl _ _ _ _ _ => false
 | .dead _ => false
 | _ => true
def xS : Nat → List CU → SU → Option (List CU × List Row × SU)
 | _, [], S => some ([], [], S)
 | k, .bor a r p i off sz n :: cs, S => (q8 S r p i).bind fun q => (xS (k + 1) cs q.2).map fun u => (.bor a (.ex k) [] 0 off sz n :: u.1, ⟨q.1, r, p, i⟩ :: u.2.1, u.2.2)
 | k, .t x :: cs, S => if tV x then (xS k cs S).map fun u => (.t x :: u.1, u.2) else none
 | _, _ :: _, _ => none
def eat {α : Type} (S : St α) : Operand → St α
 | .tmp d => if zB cx f d then S else { S with s := upd S.s d .undef }
 | _ => S
def yM (g : Nat) : Nat → Nat → List Operand → List Nat → SU → Option (List (Option XU) × List Row × SU)
 | _, _, [], _, S => some ([], [], S)
 | i, k, o :: os, ts, S =>
  if (cx.mov g).contains i then (opv cx f S (ts.head?.getD 0) o).bind fun x => match x with
   | .c c => (yS c (clr cx f S o)).bind fun q => (yM g (i + 1) k os ts.tail q.2).map fun u => (some (.c (.t (up q.1))) :: u.1, u.2)
   | _ => none
  else if (cx.plc g).contains i then (opv cx f S (ts.head?.getD 0) o).bind fun x => match x with
   | .c c => (xS k [c] (eat cx f S o)).bind fun q => (yM g (i + 1) (k + q.2.1.length) os ts.tail q.2.2).map fun u => (some (.c (q.1.head?.getD c)) :: u.1, q.2.1 ++ u.2.1, u.2.2)
   | .agg cs => (xS k cs (eat cx f S o)).bind fun q => (yM g (i + 1) (k + q.2.1.length) os ts.tail q.2.2).map fun u => (some (.agg q.1) :: u.1, q.2.1 ++ u.2.1, u.2.2)
   | _ => none
  else (yM g (i + 1) k os ts.tail S).map fun u => (none :: u.1, u.2)
def xH (S : SU) : List (Option XU) → List Operand → List Nat → Option (List (Option XU))
 | none :: ms, o :: os, ts => (opv cx f S (ts.head?.getD 0) o).bind fun x => (xH S ms os ts.tail).map fun xs => some x :: xs
 | some _ :: ms, _ :: os, ts => (xH S ms os ts.tail).map fun xs => none :: xs
 | _, _, _ => some []
def qC (S : SU) (L : List Root) (k : Nat) : List (Option XU) → List (Option XU) → Option (List XU)
 | some x :: ms, _ :: xs => (qC S L k ms xs).map fun ys => x :: ys
 | none :: ms, some x :: xs => (rF S L k x).bind fun y => (qC S L k ms xs).map fun ys => y :: ys
 | _, _ => some []
mutual
def jV {α : Type} (L : List Root) : C α → C α
 | .ptr a r p off => if L.contains r && !p.isEmpty then .t (.dead a) else .ptr a r p off
 | .bor a r p i off sz n => if L.contains r then .t (.dead a) else .bor a r p i off sz n
 | .fn g caps => .fn g (qR L caps)
 | .lst a sz n cs => .lst a sz n (qR L cs)
 | .t x => .t x
 | .rptr a cs => .rptr a cs
 | .nilp => .nilp
 | .nilf => .nilf
def qR {α : Type} (L : List Root) : List (C α) → List (C α)
 | [] => []
 | c :: cs => jV L c :: qR L cs
end
mutual
def jL {α : Type} (L : List Root) : X α → X α
 | .c x => .c (jV L x)
 | .agg cs => .agg (qR L cs)
 | .box a cs => .box a (qR L cs)
 | .tup xs => .tup (vC L xs)
 | .undef => .undef
def vC {α : Type} (L : List Root) : List (X α) → List (X α)
 | [] => []
 | x :: xs => jL L x :: vC L xs
end
mutual
def kQ {α : Type} (L : List Root) (k : Nat) : X α → X α
 | .c x => .c (qO L k x)
 | .agg cs => .agg (xY L k cs)
 | .box a cs => .box a (xY L k cs)
 | .tup xs => .tup (uJ L k xs)
 | .undef => .undef
def uJ {α : Type} (L : List Root) (k : Nat) : List (X α) → List (X α)
 | [] => []
 | x :: xs => kQ L k x :: uJ L k xs
end
def dZ {α : Type} (L : List Root) (k : Nat) (es : List (List (C α))) (d : Nat) (x : X α) : X α :=
 match yZ L (.sl d) 0 with
 | some i => x7 x (xY L k (es.getD i []))
 | none => jL L x
def zC8 {α : Type} (L : List Root) (k : Nat) (es : List (List (C α))) (j : Nat) (cs : List (C α)) : List (C α) :=
 match yZ L (.ex j) 0 with
 | some i => xY L k (es.getD i [])
 | none => qR L cs
def wO {β : Type} (g : Nat → β → β) : Nat → List β → List β
 | _, [] => []
 | j, x :: xs => g j x :: wO g (j + 1) xs
def kY {α : Type} (L : List Root) (k : Nat) (es : List (List (C α))) (S : St α) : St α :=
 { s := fun d => dZ L k es d (S.s d), e := wO (zC8 L k es) 0 S.e }
def kM (S : SU) (w : Row) (es : List CU) : Option SU :=
 match es with
 | [.t (.sl b 0 sz m ds)] => match at_ S w.r w.p w.i with
  | some (.t (.dead _)) => z7 S w.r w.p w.i (.t (.sl b 0 sz m ds))
  | _ => none
 | [.t (.dead _)] => some S
 | _ => none
def x5 : List Row → List (List CU) → SU → Option SU
 | w :: ws, e :: es, S => (kM S w e).bind fun S' => x5 ws es S'
 | [], _, S => some S
 | _, _, _ => none
def apart : List Row → Bool
 | [] => true
 | w :: ws => ws.all (fun v => !(w.r == v.r && (pre (w.p ++ [w.i]) (v.p ++ [v.i]) || pre (v.p ++ [v.i]) (w.p ++ [w.i])))) && apart ws
def zNf {α : Type} : X α → Bool
 | .tup _ => true
 | _ => false
def vS (S : SU) : Root → Bool
 | .sl d => zB cx f d && !zNf (S.s d)
 | .ex _ => true
def zBm : List Root → Bool
 | [] => true
 | r :: L => !L.contains r && zBm L
def jH (S : SU) (xs : List (Option XU)) (caps : List CU) : List Root := v6 S (cx.dpt f) (dV [] (zN false (zT (xs.filterMap id) ++ caps)))
def activeCall (S : SU) (fo : Operand) (args : List Operand) (ts : List Nat) : Option (XU × SU) :=
 match opv cx f S 0 fo with
 | some (.c (.fn g _)) => (yM cx f g 0 0 args ts S).bind fun u => match opv cx f u.2.2 0 fo with
  | some (.c (.fn g' caps)) => (xH cx f u.2.2 u.1 args ts).bind fun xs =>
    (qC u.2.2 (jH cx f u.2.2 xs caps) u.2.1.length u.1 xs).bind fun ys => (bJ u.2.2 (jH cx f u.2.2 xs caps) u.2.1.length caps).bind fun cs => ((jH cx f u.2.2 xs caps).mapM (zA u.2.2)).bind fun bs =>
     if g' = g ∧ zBm (jH cx f u.2.2 xs caps) ∧ (jH cx f u.2.2 xs caps).all (vS cx f u.2.2) ∧ apart u.2.1 ∧ u.2.1.all (fun w => !(jH cx f u.2.2 xs caps).contains w.r) then
      (call g (ys ++ cs.map .c) (u.2.1.map (fun w => [.t (up w.t)]) ++ bs.map (wE (jH cx f u.2.2 xs caps) u.2.1.length))).bind fun r => (kZ r.1).bind fun x => (r.2.mapM xQ).bind fun es =>
       if (es.drop u.2.1.length).map List.length = bs.map List.length ∧ es.length = u.2.1.length + bs.length then
        (x5 u.2.1 (es.take u.2.1.length) (kY (jH cx f u.2.2 xs caps) u.2.1.length (es.drop u.2.1.length) u.2.2)).map fun S' => (kQ (jH cx f u.2.2 xs caps) u.2.1.length x, S')
       else none
     else none
  | _ => none
 | _ => none
def uQ : XU → Bool
 | .undef => true
 | _ => false
def wJ (S : SU) (dst : Option Nat) (x : XU) : Option SU :=
 match dst with
 | some d => if zB cx f d && !uQ (S.s d) then none else some { S with s := upd S.s d x }
 | none => some S
def y5 (S : SU) (ops : Array Oper) (o : Oper) : Option Bool :=
 match o.guard with
 | none => some true
 | some (j, want) => match (ops[j]?).bind (·.dst) with
  | some d => match S.s d with
   | .c (.t (.bool b)) => some (b == want)
   | .tup [] => some false
   | _ => none
  | none => none
def yX : Op → Bool
 | .assign _ | .store _ _ _ => true
 | .call { callee := .builtin .append, .. } => true
 | .call { callee := .value (.func g), .. } => cx.act g
 | .call { callee := .value _, .. } => true
 | _ => false
def stepOp (S : SU) (ops : Array Oper) (o : Oper) : Option SU :=
 match y5 S ops o with
 | none => none
 | some false => wJ cx f S o.dst (.tup [])
 | some true => match o.op with
  | .assign x => match o.dst with
   | some d => sN cx f S o.type d x
   | none => none
  | .store t a x => (nT cx f S t a x).bind fun S' => wJ cx f S' o.dst (.tup [])
  | .call c => if yX cx (.call c) then (match c.callee, c.args.toList with
    | .builtin .append, [s, x] => (gS cx f S c.argTypes.toList s x).bind fun r => wJ cx f r.2 o.dst r.1
    | .value fo, args => (activeCall cx f call S fo args c.argTypes.toList).bind fun r => wJ cx f r.2 o.dst r.1
    | _, _ => none) else (qcall cx f call S o.type c).bind fun r => wJ cx f r.2 o.dst r.1
  | op => (qval cx f call S o.type op).bind fun r => wJ cx f r.2 o.dst r.1
def stepOps (ops : Array Oper) : List Oper → SU → Option SU
 | [], S => some S
 | o :: os, S => (stepOp cx f call S ops o).bind fun S' => stepOps ops os S'
def wR (S : SU) (o : Oper) : Bool :=
 match o.op with
 | .call c => match c.callee, c.args.toList, c.argTypes.toList with
  | .builtin .append, [s, x], [t, t'] => (match opv cx f S t s with
    | some (.c (.t (.sl _ 0 _ _ _))) => true
    | _ => false) && (match opv cx f S t' x with
    | some (.c (.t _)) => true
    | some (.c (.bor _ _ _ _ _ _ _)) => match (cx.ty t).el with
     | some el => (cx.ty el).flat
     | none => false
    | _ => false)
  | _, _, _ => false
 | _ => false
def vI (ops : Array Oper) (S : SU) (o : Oper) : Bool := !yX cx o.op || y5 S ops o == some false || wR cx f S o
def j4 : Op → Bool
 | .move _ => true
 | .load _ _ => true
 | .fieldAddr _ _ _ => true
 | .indexAddr _ _ _ => true
 | .binOp _ _ _ _ _ => true
 | .unOp _ _ _ => true
 | .index _ _ _ => true
 | .nilCheck _ => true
 | .extract _ _ => true
 | .pick _ _ _ => true
 | .call { callee := .builtin .len, .. } => true
 | _ => false
def lX : zX := fun _ _ _ => none
def hide {α : Type} (Z : List Nat) (S : St α) : St α := { S with s := fun t => if t ∈ Z then .undef else S.s t }
def qI (ops : Array Oper) (Y : List Nat) : List Nat := Y.filterMap fun y => (ops[y]?).bind (·.dst)
def zEl (id : Nat) (ops : Array Oper) (S1 : SU) : List Nat → Prop
 | [] => True
 | y :: Y => ((∀ z ∈ Y, y < z) ∧ ∃ o d, ops[y]? = some o ∧ o.dst = some d ∧ j4 o.op = true ∧ zB cx f d = false ∧ cx.ord f id y = false ∧ (∀ t ∈ cx.shr f id y, zB cx f t = true ∨ yQ (S1.s t) = false) ∧ stepOp cx f lX (hide (qI ops (y :: Y)) S1) ops o = some (hide (qI ops Y) S1)) ∧ zEl id ops S1 Y
def zEh (id k : Nat) : List Nat := if cx.ord f id k then cx.pnd f id k else []
open Classical in
noncomputable def zKi (id : Nat) (ops : Array Oper) (k : Nat) (S1 : SU) : Option SU :=
 match zEh cx f id k with
 | [] => some S1
 | y :: Y => if zEl cx f id ops S1 (y :: Y) then some S1 else none
noncomputable def bW (id : Nat) (ops : Array Oper) (k : Nat) (S : SU) (o : Oper) : Option SU :=
 if (cx.ord f id k || vI cx f ops S o) && (cx.shr f id k).all (fun t => zB cx f t || !yQ (S.s t)) then (stepOp cx f call S ops o).bind (zKi cx f id ops k) else none
def eJ : XU → Option Root
 | .c (.ptr _ r _ _) => some r
 | _ => none
def zCb (S : SU) (x y : Nat) : Bool :=
 match eJ (S.s x), eJ (S.s y) with
 | some r, some r' => decide (r ≠ r')
 | _, _ => false
def oD (S : SU) (ops : Array Oper) : Bool :=
 match ops[ops.size - 2]?, ops[ops.size - 1]? with
 | some o, some o' => match o.op, o'.op with
  | .store _ (.tmp x) _, .store _ (.tmp y) _ => zCb S x y
  | _, _ => false
 | _, _ => false
def m3 (id k : Nat) : Bool :=
 match cx.tl f id with
 | some m => decide (m ≤ k)
 | none => false
noncomputable def aC (id : Nat) (ops : Array Oper) (k : Nat) (S : SU) (o : Oper) : Option SU :=
 if m3 cx f id k then (if k + 2 = ops.size && !oD S ops then none else stepOp cx f call S ops o)
 else bW cx f call id ops k S o
noncomputable def stepsD (id : Nat) (ops : Array Oper) : Nat → List Oper → SU → Option SU
 | _, [], S => some S
 | k, o :: os, S => (aC cx f call id ops k S o).bind fun S' => stepsD id ops (k + 1) os S'
def zRw : Op → Bool
 | .assign _ => false
 | .store _ _ _ => false
 | _ => true
def zBy (S : SU) : List Oper → SU
 | [] => S
 | o :: os => match o.dst with
  | some d => if zRw o.op && zB cx f d then (let S1 := kill (.sl d) [] S; zBy { S1 with s := upd S1.s d .undef } os) else zBy S os
  | none => zBy S os
def iB (π : List Nat) (o : Oper) : Oper := { o with after := o.after.map fun e => { e with on := π.idxOf e.on }, guard := o.guard.map fun q => (π.idxOf q.1, q.2) }
def xW (π : List Nat) (ops : Array Oper) : Array Oper := if π.isEmpty then ops else (π.map fun i => iB π ((ops[i]?).getD default)).toArray
inductive Ex where
 | nrm
 | exit (id : Nat)
 | ret
def iter : Nat → (SU → Option (Ex × SU)) → SU → Option (Ex × SU)
 | 0, _, _ => none
 | n + 1, g, S => match g S with
  | some (.nrm, S') => iter n g S'
  | r => r
noncomputable def y8 (lf : Nat) : Code → SU → Option (Ex × SU)
 | .skip, S => some (.nrm, S)
 | .region id ops draw, S => (if draw then stepsD cx f call id (xW (cx.prm f id) ops) 0 (xW (cx.prm f id) ops).toList (zBy cx f S ops.toList) else stepOps cx f call ops ops.toList (zBy cx f S ops.toList)).map fun S' => (.nrm, S')
 | .seq a b, S => match y8 lf a S with
  | some (.nrm, S') => y8 lf b S'
  | r => r
 | .cond c x y, S => match v1 (opv cx f S 0 c) with
  | some true => y8 lf x S
  | some false => y8 lf y S
  | none => none
 | .block id c, S => match y8 lf c S with
  | some (.exit id', S') => if id' = id then some (.nrm, S') else some (.exit id', S')
  | r => r
 | .loop c, S => iter lf (y8 lf c) S
 | .exit id, S => some (.exit id, S)
 | .ret, S => some (.ret, S)
 | _, _ => none
def fJ : CU → SU → Option (CU × SU)
 | .bor a (.sl d) p i off sz n, S => (xL S a (.sl d) p i off sz n).map fun r => (.t r.1, r.2)
 | .lst a sz n cs, S => (yS (.lst a sz n cs) S).map fun r => (.t r.1, r.2)
 | .ptr _ (.sl _) _ _, S => some (.t (.dead ()), S)
 | .fn g caps, S => if (zN true caps).all x4 then some (.fn g caps, S) else none
 | c, S => some (c, S)
def dD : List CU → SU → Option (List CU × SU)
 | [], S => some ([], S)
 | c :: cs, S => (fJ c S).bind fun r => (dD cs r.2).map fun q => (r.1 :: q.1, q.2)
def s7 : XU → SU → Option (XU × SU)
 | .c (.ptr _ (.sl d) [] 0), S => match (kill (.sl d) [] S).s d with
  | .box a cs => (dD cs { kill (.sl d) [] S with s := upd (kill (.sl d) [] S).s d .undef }).map fun r => (.box a r.1, r.2)
  | _ => none
 | .c x, S => (fJ x S).map fun r => (.c r.1, r.2)
 | .agg cs, S => (dD cs S).map fun r => (.agg r.1, r.2)
 | .box a cs, S => (dD cs S).map fun r => (.box a r.1, r.2)
 | _, _ => none
def zF8 (S : SU) : ResultVar → Option (XU × SU)
 | .tmp t => (opv cx f S 0 (.tmp t)).map fun x => (x, clr cx f S (.tmp t))
 | .cell a t => match opv cx f S 0 (.tmp a) with
  | some (.c (.ptr _ r p off)) => if (cx.ty t).ok then (jT S r p off (cx.ty t).sz).bind fun cs => (mkX cx t cs).map fun x => (x, S) else none
  | _ => none
def nL (S : SU) : List ResultVar → Option (List XU × SU)
 | [] => some ([], S)
 | r :: rs => (zF8 cx f S r).bind fun x => (s7 x.1 x.2).bind fun q => (nL q.2 rs).map fun u => (q.1 :: u.1, u.2)
def lL (S : SU) : XU → Bool
 | .c c => yL S c
 | .agg cs => xN S cs
 | .box _ cs => xN S cs
 | _ => false
def o6 : List XU → XU
 | [x] => x
 | xs => .tup xs
end
def y6 {α : Type} (args : List (X α)) : Nat → X α := fun i => args.getD i .undef
noncomputable def uX (cx : Ctx) (f : Nat) (call : zX) (lf : Nat) (fn : Func) (c : Code) (args : List XU) (ext : List (List CU)) : Option (XU × List (List CU)) :=
 if args.length ≤ fn.ntmps then match y8 cx f call lf c ⟨y6 args, ext⟩ with
 | some (.nrm, S) | some (.ret, S) => (nL cx f S fn.results.toList).bind fun r => if r.1.all (lL r.2) && r.2.e.all (fun cs => (zN true cs).all x4) then some (o6 r.1, r.2.e) else none
 | _ => none
 else none
noncomputable def run (P : Program) (cx : Ctx) : Nat → zX
 | 0 => fun _ _ _ => none
 | k + 1 => fun f args ext => match cx.orc f with
  | some h => match ext with
   | [] => (h args).map fun x => (x, [])
   | _ => none
  | none => match P.funcs[f]? with
   | some fn => match fn.body with
    | some c => if cx.good f then uX cx f (run P cx k) k fn c args ext else none
    | none => none
   | none => none
end Go.Proofs.YtlkjnlfddadlmaaGreatDoor.V
namespace Go.Proofs.YtlkjnlfddadlmaaGreatDoor.V
section
variable {α β : Type} (g : α → β)
mutual
def yA : T α → T β
 | .int k n => .int k n
 | .bool b => .bool b
 | .str s => .str s
 | .sl a tag sz n cs => .sl (g a) tag sz n (kH cs)
 | .dead a => .dead (g a)
 | .nili => .nili
 | .ifc a => .ifc (g a)
def kH : List (T α) → List (T β)
 | [] => []
 | x :: xs => yA x :: kH xs
end
mutual
def zI : C α → C β
 | .t x => .t (yA g x)
 | .ptr a r p off => .ptr (g a) r p off
 | .bor a r p i off sz n => .bor (g a) r p i off sz n
 | .rptr a cs => .rptr (g a) (kH g cs)
 | .nilp => .nilp
 | .fn f caps => .fn f (yY caps)
 | .nilf => .nilf
 | .lst a sz n cs => .lst (g a) sz n (yY cs)
def yY : List (C α) → List (C β)
 | [] => []
 | x :: xs => zI x :: yY xs
end
mutual
def zW : X α → X β
 | .c x => .c (zI g x)
 | .agg cs => .agg (yY g cs)
 | .box a cs => .box (g a) (yY g cs)
 | .tup xs => .tup (wG xs)
 | .undef => .undef
def wG : List (X α) → List (X β)
 | [] => []
 | x :: xs => zW x :: wG xs
end
def jJ (S : St α) : St β := { s := fun i => zW g (S.s i), e := S.e.map (yY g) }
theorem yO : ∀ xs : List (T α), kH g xs = xs.map (yA g)
 | [] => by simp [kH]
 | x :: xs => by simp [kH, yO xs]
theorem zR : ∀ xs : List (C α), yY g xs = xs.map (zI g)
 | [] => by simp [yY]
 | x :: xs => by simp [yY, zR xs]
theorem wH : ∀ xs : List (X α), wG g xs = xs.map (zW g)
 | [] => by simp [wG]
 | x :: xs => by simp [wG, wH xs]
theorem kO (r : Root) (q : List Nat) : ∀ xs : List (C α), yT r q xs = xs.map (zS r q)
 | [] => by simp [yT]
 | x :: xs => by simp [yT, kO r q xs]
theorem zDz (r : Root) (q : List Nat) : ∀ xs : List (X α), xC r q xs = xs.map (z6 r q)
 | [] => by simp [xC]
 | x :: xs => by simp [xC, zDz r q xs]
theorem cP : ∀ xs : List (T α), yD xs = xs.map retag
 | [] => by simp [yD]
 | x :: xs => by simp [yD, cP xs]
theorem zOh : ∀ (p : List Nat) (cs : List (T α)), sub (cs.map (yA g)) p = (sub cs p).map (·.map (yA g))
 | [], cs => by simp [sub]
 | i :: p, cs => by
  simp only [sub, List.getElem?_map]
  cases h : cs[i]? with
  | none => simp
  | some x =>
   cases x with
   | sl a tag sz n ds =>
    cases tag with
    | zero => simp only [Option.map_some, yA, yO, zOh p ds]
    | succ m => simp [yA]
   | _ => simp [yA]
theorem zJi : ∀ (p : List Nat) (cs : List (T α)) (off : Nat) (y : T α), xJ (cs.map (yA g)) p off (yA g y) = (xJ cs p off y).map (·.map (yA g))
 | [], cs, off, y => by
  simp only [xJ, List.length_map]
  split <;> simp [List.map_set]
 | i :: p, cs, off, y => by
  simp only [xJ, List.getElem?_map]
  cases h : cs[i]? with
  | none => simp
  | some x =>
   cases x with
   | sl a tag sz n ds =>
    cases tag with
    | zero =>
     simp only [Option.map_some, yA, yO, zJi p ds off y, Option.map_map]
     cases xJ ds p off y with
     | none => simp
     | some ds' => simp [List.map_set, yA, yO]
    | succ m => simp [yA]
   | _ => simp [yA]
theorem zTg (cs : List (C α)) (p : List Nat) : y9 (cs.map (zI g)) p = (y9 cs p).map (·.map (zI g)) := by
 cases p with
 | nil => simp [y9]
 | cons i p =>
  simp only [y9, List.getElem?_map]
  cases h : cs[i]? with
  | none => simp
  | some x =>
   cases x with
   | t x =>
    cases x with
    | sl a tag sz n ds =>
     cases tag with
     | zero =>
      simp only [Option.map_some, zI, yA, yO, zOh, Option.map_map]
      cases sub ds p with
      | none => simp
      | some es => simp [zI, Function.comp_def]
     | succ m => simp [zI, yA]
    | _ => simp [zI, yA]
   | _ => simp [zI]
theorem zS2 (cs : List (C α)) (p : List Nat) (off : Nat) (y : C α) : kU (cs.map (zI g)) p off (zI g y) = (kU cs p off y).map (·.map (zI g)) := by
 cases p with
 | nil =>
  simp only [kU, List.length_map]
  split <;> simp [List.map_set]
 | cons i p =>
  cases y with
  | t y =>
   simp only [zI, kU, List.getElem?_map]
   cases h : cs[i]? with
   | none => simp
   | some x =>
    cases x with
    | t x =>
     cases x with
     | sl a tag sz n ds =>
      cases tag with
      | zero =>
       simp only [Option.map_some, zI, yA, yO, zJi, Option.map_map]
       cases xJ ds p off y with
       | none => simp
       | some ds' => simp [List.map_set, zI, yA, yO]
      | succ m => simp [zI, yA]
     | _ => simp [zI, yA]
    | _ => simp [zI]
  | _ => simp [zI, kU]
theorem zDq : ∀ xs : List (X α), zT (xs.map (zW g)) = (zT xs).map (zI g)
 | [] => by simp [zT]
 | x :: xs => by cases x <;> simp [zT, zW, zDq xs, zR]
theorem dR (S : St α) (r : Root) : zA (jJ g S) r = (zA S r).map (·.map (zI g)) := by
 cases r with
 | sl d => simp only [zA, jJ]; cases h : S.s d <;> simp [zW, zR, wH, zDq]
 | ex j =>
  simp only [zA, jJ, List.getElem?_map]
  cases S.e[j]? <;> simp [zR]
theorem lN (S : St α) (r : Root) (p : List Nat) (off : Nat) : at_ (jJ g S) r p off = (at_ S r p off).map (zI g) := by
 simp only [at_, dR]
 cases zA S r with
 | none => simp
 | some cs =>
  simp only [Option.map_some, Option.bind_some, zTg]
  cases y9 cs p with
  | none => simp
  | some ds => simp
theorem eK (r : Root) (p : List Nat) (i : Nat) (c : C α) : rdc r p i (zI g c) = zI g (rdc r p i c) := by
 cases c with
 | t x =>
  cases x with
  | sl a tag sz n ds => cases tag <;> simp [rdc, zI, yA]
  | _ => simp [rdc, zI, yA]
 | _ => simp [rdc, zI, yA]
theorem cD (S : St α) (r : Root) (p : List Nat) : ∀ (n off : Nat), jT (jJ g S) r p off n = (jT S r p off n).map (·.map (zI g))
 | 0, off => by simp [jT]
 | n + 1, off => by
  simp only [jT, lN, cD S r p n]
  cases at_ S r p off with
  | none => simp
  | some c =>
   cases jT S r p (off + 1) n with
   | none => simp
   | some cs => simp [eK]
theorem zCm : ∀ (xs : List (X α)) (cs : List (C α)), yH (xs.map (zW g)) (cs.map (zI g)) = (yH xs cs).map (zW g)
 | [], cs => by simp [yH]
 | x :: xs, cs => by
  have ih := zCm xs
  cases x with
  | c x =>
   have := ih cs.tail
   simp only [List.map_tail] at this
   cases cs <;> simp_all [yH, zW]
  | agg ds =>
   have h1 := ih (cs.drop ds.length)
   simp only [List.map_drop] at h1
   simp [yH, zW, zR, h1, List.map_take]
  | _ => simp [yH, zW, ih]
theorem zJl (x : X α) (cs : List (C α)) : x7 (zW g x) (cs.map (zI g)) = zW g (x7 x cs) := by
 cases x with
 | c x =>
  cases cs with
  | nil => simp [x7, zW]
  | cons y ys => cases ys <;> simp [x7, zW]
 | agg ds => simp [x7, zW, zR]
 | box a ds => simp [x7, zW, zR]
 | tup xs => simp [x7, zW, wH, zCm]
 | undef => simp [x7, zW]
theorem aI (s : Nat → X α) (d : Nat) (x : X α) : (fun i => zW g (upd s d x i)) = upd (fun i => zW g (s i)) d (zW g x) := by
 funext i
 simp only [upd]
 split <;> rfl
theorem zJf (S : St α) (r : Root) (cs : List (C α)) : zM (jJ g S) r (cs.map (zI g)) = jJ g (zM S r cs) := by
 cases r with
 | sl d => simp only [zM, jJ, zJl, aI]
 | ex j => simp [zM, jJ, zR, List.map_set]
theorem uB (S : St α) (r : Root) (p : List Nat) (off : Nat) (c : C α) : z7 (jJ g S) r p off (zI g c) = (z7 S r p off c).map (jJ g) := by
 simp only [z7, dR]
 cases zA S r with
 | none => simp
 | some cs =>
  simp only [Option.map_some, Option.bind_some, zS2]
  cases kU cs p off c with
  | none => simp
  | some ds => simp [zJf]
mutual
theorem cB (r : Root) (q : List Nat) : ∀ c : C α, zS r q (zI g c) = zI g (zS r q c)
 | .t x => by simp [zS, zI]
 | .ptr a r' p off => by simp only [zI, zS]; split <;> simp [zI, yA]
 | .bor a r' p i off sz n => by simp only [zI, zS]; split <;> simp [zI, yA]
 | .rptr a cs => by simp [zS, zI]
 | .nilp => by simp [zS, zI]
 | .fn f caps => by simp [zS, zI, gB r q caps]
 | .nilf => by simp [zS, zI]
 | .lst a sz n cs => by simp [zS, zI, gB r q cs]
theorem gB (r : Root) (q : List Nat) : ∀ cs : List (C α), yT r q (yY g cs) = yY g (yT r q cs)
 | [] => by simp [yT, yY]
 | c :: cs => by simp [yT, yY, cB r q c, gB r q cs]
end
mutual
theorem zDx (r : Root) (q : List Nat) : ∀ x : X α, z6 r q (zW g x) = zW g (z6 r q x)
 | .c x => by simp [z6, zW, cB]
 | .agg cs => by simp [z6, zW, gB]
 | .box a cs => by simp [z6, zW, gB]
 | .tup xs => by simp [z6, zW, zA8 r q xs]
 | .undef => by simp [z6, zW]
theorem zA8 (r : Root) (q : List Nat) : ∀ xs : List (X α), xC r q (wG g xs) = wG g (xC r q xs)
 | [] => by simp [xC, wG]
 | x :: xs => by simp [xC, wG, zDx r q x, zA8 r q xs]
end
theorem fP (S : St α) (r : Root) (q : List Nat) : kill r q (jJ g S) = jJ g (kill r q S) := by
 simp only [kill, jJ, zDx]
 congr 1
 simp [gB, Function.comp_def]
mutual
theorem cO : ∀ x : T α, retag (yA g x) = yA g (retag x)
 | .sl a tag sz n cs => by simp [yA, retag, sA cs]
 | .int _ _ => by simp [retag, yA]
 | .bool _ => by simp [retag, yA]
 | .str _ => by simp [retag, yA]
 | .dead _ => by simp [retag, yA]
 | .nili => by simp [retag, yA]
 | .ifc _ => by simp [retag, yA]
theorem sA : ∀ xs : List (T α), yD (kH g xs) = kH g (yD xs)
 | [] => by simp [yD, kH]
 | x :: xs => by simp [yD, kH, cO x, sA xs]
end
mutual
theorem zAg : ∀ x : T α, down (yA g x) = (down x).map (yA g)
 | .sl a tag sz n cs => by
  simp only [yA, down]
  split
  ·simp
  ·rw [zDl cs]
   cases qL cs <;> simp [yA]
 | .int _ _ => by simp [down, yA]
 | .bool _ => by simp [down, yA]
 | .str _ => by simp [down, yA]
 | .dead _ => by simp [down, yA]
 | .nili => by simp [down, yA]
 | .ifc _ => by simp [down, yA]
theorem zDl : ∀ xs : List (T α), qL (kH g xs) = (qL xs).map (kH g)
 | [] => by simp [qL, kH]
 | x :: xs => by
  simp only [kH, qL, zAg x, zDl xs]
  cases down x with
  | none => simp
  | some y => cases qL xs <;> simp [kH]
end
theorem rT (S : St α) (r : Root) (p : List Nat) (i off m : Nat) : x6 (jJ g S) r p i off m = (x6 S r p i off m).map (·.map (yA g)) := by
 simp only [x6, lN]
 cases at_ S r p i with
 | none => simp
 | some c =>
  cases c with
  | t x =>
   cases x with
   | sl a tag sz n ds =>
    cases tag with
    | zero =>
     simp only [Option.map_some, zI, yA, yO, List.length_map]
     split <;> simp [List.map_take, List.map_drop]
    | succ m => simp [zI, yA]
   | _ => simp [zI, yA]
  | _ => simp [zI]
theorem fN (c : C α) : x9 (zI g c) = x9 c := by
 cases c with
 | t x =>
  cases x with
  | sl a tag sz n ds => cases tag <;> simp [x9, zI, yA]
  | _ => simp [x9, zI, yA]
 | _ => simp [x9, zI]
theorem zKa (cs : List (C α)) : (cs.map (zI g)).any x9 = cs.any x9 := by
 induction cs with
 | nil => rfl
 | cons c cs ih => simp [fN, ih]
theorem zAu (x : X α) : yQ (zW g x) = yQ x := by
 cases x with
 | c x => simp [yQ, zW, fN]
 | agg cs => simp only [yQ, zW, zR, zKa]
 | box a cs => simp [yQ, zW]
 | tup xs =>
  simp only [yQ, zW, wH]
  induction xs with
  | nil => rfl
  | cons x xs ih =>
   simp only [List.map_cons, List.any_cons, ih]
   congr 1
   cases x <;> simp [zN1, zW, fN, zR, Function.comp_def]
 | undef => simp [yQ, zW]
theorem zLy (S : St α) (a : α) (r : Root) (p : List Nat) (i off sz n : Nat) :
  xL (jJ g S) (g a) r p i off sz n = (xL S a r p i off sz n).map fun q => (yA g q.1, jJ g q.2) := by
 simp only [xL, lN]
 cases at_ S r p i with
 | none => simp
 | some c =>
  cases c with
  | t x =>
   cases x with
   | sl b tag sz' n' ds =>
    cases tag with
    | zero =>
     simp only [Option.map_some, zI, yA, yO, List.length_map]
     split
     ·have := uB g S r p i (.t (.dead b))
      simp only [zI, yA] at this
      rw [this]
      cases z7 S r p i (.t (.dead b)) with
      | none => simp
      | some S' => simp [yA, yO, List.map_take, List.map_drop, fP]
     ·simp
    | succ m => simp [zI, yA]
   | _ => simp [zI, yA]
  | _ => simp [zI]
end
end Go.Proofs.YtlkjnlfddadlmaaGreatDoor.V
namespace Go.Proofs.YtlkjnlfddadlmaaGreatDoor.V
open Go.RowKit
abbrev TV := T Value
abbrev CV := C Value
abbrev XV := X Value
abbrev SV := St Value
def er0 : Value → Unit := fun _ => ()
abbrev erT : TV → TU := yA er0
abbrev erC : CV → CU := zI er0
abbrev erX : XV → XU := zW er0
abbrev erS : SV → SU := jJ er0
def zV : TV → Value
 | .int k n => .int k n
 | .bool b => .bool b
 | .str s => .string ⟨s.toArray⟩
 | .sl a _ _ _ _ => a
 | .dead a => a
 | .nili => .nilIface
 | .ifc a => a
mutual
def zJ : CV → Value
 | .t x => zV x
 | .ptr a _ _ _ => a
 | .bor a _ _ _ _ _ _ => a
 | .rptr a _ => a
 | .nilp => .pointer none
 | .fn f caps => .func (.func f) #[] (yC caps).toArray
 | .nilf => .nilFunc
 | .lst a _ _ _ => a
def yC : List CV → List Value
 | [] => []
 | c :: cs => zJ c :: yC cs
end
mutual
def zQ : XV → Value
 | .c x => zJ x
 | .agg cs => .agg (yC cs).toArray
 | .box a _ => a
 | .tup xs => .tuple (jF xs).toArray
 | .undef => undef
def jF : List XV → List Value
 | [] => []
 | x :: xs => zQ x :: jF xs
end
theorem z8 : ∀ cs : List CV, yC cs = cs.map zJ
 | [] => by simp [yC]
 | c :: cs => by simp [yC, z8 cs]
theorem aJ : ∀ cs : List XV, jF cs = cs.map zQ
 | [] => by simp [jF]
 | c :: cs => by simp [jF, aJ cs]
def vM (w : World) (b o : Nat) (vs : List Value) : Prop := ∀ j v, vs[j]? = some v → w.cell? ⟨b, o + j, none⟩ = some v
def Win (b o lim sz n : Nat) (a : Value) : Prop :=
 ∃ ad cap, a = .slice (some ad) n cap ∧ n ≤ cap ∧ ad.spot = none ∧ ad.block = b ∧ (cap = 0 ∨ (ad.off = o ∧ o + cap * sz ≤ lim))
def kX (w : World) (a : Value) (sz n : Nat) (vs : List Value) : Prop :=
 (a = .slice none 0 0 ∧ n = 0) ∨
 ∃ b o cur e, Win b o cur.size sz n a ∧ w.heap[b]? = some (.cells cur e (0, 0)) ∧ ∀ j v, vs[j]? = some v → cur[o + j]? = some v
def sK (w : World) (R : Nat → Prop) (a : Value) (n : Nat) (vs : List Value) : Prop :=
 ∃ A cap, a = .slice A n cap ∧ n ≤ cap ∧ (n = 0 ∨ ∃ ad, A = some ad ∧ ad.spot = none ∧ R ad.block ∧ vM w ad.block ad.off vs)
mutual
def shT (g : Nat) : TV → Prop
 | .sl _ tag _ _ cs => 1 ≤ tag ∧ g ≤ tag ∧ qZ g cs
 | _ => True
def qZ (g : Nat) : List TV → Prop
 | [] => True
 | x :: xs => shT g x ∧ qZ g xs
end
mutual
def okT (w : World) (P : Nat → Nat → Prop) (R : Nat → Prop) : TV → Prop
 | .sl a tag sz n cs => cs.length = n * sz ∧ xP w P R cs ∧
   (if tag = 0 then kX w a sz n (cs.map zV) else sK w (P tag) a n (cs.map zV) ∧ 1 ≤ tag ∧ qZ tag cs)
 | .dead a => (∃ A n c, a = .slice A n c) ∨ ∃ p, a = .pointer p
 | .ifc a => ∃ t v, a = .iface t v
 | _ => True
def xP (w : World) (P : Nat → Nat → Prop) (R : Nat → Prop) : List TV → Prop
 | [] => True
 | x :: xs => okT w P R x ∧ xP w P R xs
end
def hdr : Value → List Nat
 | .slice (some ad) _ _ => [ad.block]
 | .pointer (some ad) => [ad.block]
 | _ => []
mutual
def zU : TV → List Nat
 | .sl a tag _ _ cs => if tag = 0 then hdr a ++ zZ cs else []
 | _ => []
def zZ : List TV → List Nat
 | [] => []
 | x :: xs => zU x ++ zZ xs
end
mutual
def zP : CV → List Nat
 | .t x => zU x
 | .lst a _ _ cs => hdr a ++ zH cs
 | _ => []
def zH : List CV → List Nat
 | [] => []
 | x :: xs => zP x ++ zH xs
end
mutual
def zE : XV → List Nat
 | .c x => zP x
 | .agg cs => zH cs
 | .box a cs => hdr a ++ zH cs
 | .tup xs => xA xs
 | .undef => []
def xA : List XV → List Nat
 | [] => []
 | x :: xs => zE x ++ xA xs
end
theorem xU {g : Nat} : ∀ {xs : List TV}, qZ g xs ↔ ∀ x ∈ xs, shT g x
 | [] => by simp [qZ]
 | x :: xs => by simp [qZ, xU (xs := xs)]
theorem yJ {w : World} {P : Nat → Nat → Prop} {R : Nat → Prop} : ∀ {xs : List TV}, xP w P R xs ↔ ∀ x ∈ xs, okT w P R x
 | [] => by simp [xP]
 | x :: xs => by simp [xP, yJ (xs := xs)]
theorem xD : ∀ xs : List TV, zZ xs = xs.flatMap zU
 | [] => by simp [zZ]
 | x :: xs => by simp [zZ, xD xs]
theorem yW : ∀ xs : List CV, zH xs = xs.flatMap zP
 | [] => by simp [zH]
 | x :: xs => by simp [zH, yW xs]
inductive EA where
 | box (ad : Addr)
 | row (vs : List Value)
def EA.ad : EA → Option Addr
 | .box ad => some ad
 | .row _ => none
def rootAd (S : SV) (ea : List EA) : Root → Option Addr
 | .sl d => match S.s d with
  | .box (.pointer (some ad)) _ => some ad
  | _ => none
 | .ex j => (ea[j]?).bind EA.ad
def k8 (S : SV) (r : Root) (p : List Nat) (i : Nat) : Option Value :=
 match at_ S r p i with
 | some (.t (.sl a 0 _ _ _)) => some a
 | _ => none
def yV (S : SV) (ea : List EA) (r : Root) (p : List Nat) : Option Addr :=
 if p = [] then rootAd S ea r else match k8 S r p.dropLast (p.getLast?.getD 0) with
  | some (.slice (some ad) _ _) => some ad
  | _ => none
def vB (S : SV) (ea : List EA) (r : Root) (p : List Nat) (off : Nat) (a : Value) : Prop :=
 ∃ ad, yV S ea r p = some ad ∧ a = .pointer (some ⟨ad.block, ad.off + off, none⟩)
def wD (S : SV) (r : Root) (p : List Nat) (i off sz n : Nat) (a : Value) : Prop :=
 ∃ b m ds, at_ S r p i = some (.t (.sl b 0 sz m ds)) ∧ off + n * sz ≤ ds.length ∧
  ((b = .slice none 0 0 ∧ a = .slice none 0 0 ∧ n = 0) ∨
   ∃ ad cap, b = .slice (some ad) m cap ∧ Win ad.block (ad.off + off) (ad.off + cap * sz) sz n a)
mutual
def okC (w : World) (P : Nat → Nat → Prop) (R : Nat → Prop) (S : SV) (ea : List EA) : CV → Prop
 | .t x => okT w P R x
 | .ptr a r p off => vB S ea r p off a
 | .bor a r p i off sz n => wD S r p i off sz n a
 | .rptr a cs => xP w P R cs ∧ qZ 1 cs ∧ ∃ ad, a = .pointer (some ad) ∧ ad.spot = none ∧ (cs = [] ∨ (R ad.block ∧ vM w ad.block ad.off (cs.map zV)))
 | .fn _ caps => yF w P R S ea caps ∧ zH caps = []
 | .lst a sz n cs => cs.length = n * sz ∧ yF w P R S ea cs ∧ kX w a sz n (yC cs)
 | .nilp => True
 | .nilf => True
def yF (w : World) (P : Nat → Nat → Prop) (R : Nat → Prop) (S : SV) (ea : List EA) : List CV → Prop
 | [] => True
 | x :: xs => okC w P R S ea x ∧ yF w P R S ea xs
end
def vA (w : World) (ad : Addr) (cs : List CV) : Prop :=
 ad.off = 0 ∧ ad.spot = none ∧ ∃ cur e, w.heap[ad.block]? = some (.cells cur e (0, 0)) ∧ cur.toList = yC cs
mutual
def okX (w : World) (P : Nat → Nat → Prop) (R : Nat → Prop) (S : SV) (ea : List EA) : XV → Prop
 | .c x => okC w P R S ea x
 | .agg cs => yF w P R S ea cs
 | .box a cs => yF w P R S ea cs ∧ ∃ ad, a = .pointer (some ad) ∧ vA w ad cs
 | .tup xs => xR w P R S ea xs
 | .undef => True
def xR (w : World) (P : Nat → Nat → Prop) (R : Nat → Prop) (S : SV) (ea : List EA) : List XV → Prop
 | [] => True
 | x :: xs => okX w P R S ea x ∧ xR w P R S ea xs
end
theorem zY {w : World} {P : Nat → Nat → Prop} {R : Nat → Prop} {S : SV} {ea : List EA} : ∀ {xs : List CV}, yF w P R S ea xs ↔ ∀ x ∈ xs, okC w P R S ea x
 | [] => by simp [yF]
 | x :: xs => by simp [yF, zY (xs := xs)]
theorem nC {w : World} {P : Nat → Nat → Prop} {R : Nat → Prop} {S : SV} {ea : List EA} : ∀ {xs : List XV}, xR w P R S ea xs ↔ ∀ x ∈ xs, okX w P R S ea x
 | [] => by simp [xR]
 | x :: xs => by simp [xR, nC (xs := xs)]
mutual
def zF : CV → List Root
 | .ptr _ r _ _ => [r]
 | .bor _ r _ _ _ _ _ => [r]
 | .fn _ caps => zK caps
 | .lst _ _ _ cs => zK cs
 | _ => []
def zK : List CV → List Root
 | [] => []
 | c :: cs => zF c ++ zK cs
end
mutual
def zD : XV → List Root
 | .c x => zF x
 | .agg cs => zK cs
 | .box _ cs => zK cs
 | .tup xs => yN xs
 | .undef => []
def yN : List XV → List Root
 | [] => []
 | x :: xs => zD x ++ yN xs
end
theorem yI : ∀ xs : List CV, zK xs = xs.flatMap zF
 | [] => by simp [zK]
 | x :: xs => by simp [zK, yI xs]
theorem cM : ∀ xs : List XV, yN xs = xs.flatMap zD
 | [] => by simp [yN]
 | x :: xs => by simp [yN, cM xs]
theorem zO2 {w w' : World} {b o : Nat} (h : w'.heap[b]? = w.heap[b]?) : w'.cell? ⟨b, o, none⟩ = w.cell? ⟨b, o, none⟩ := World.cell?_of_block (a := ⟨b, o, none⟩) h
theorem sU {w w' : World} {b o : Nat} {vs : List Value} (h : w'.heap[b]? = w.heap[b]?) (hc : vM w b o vs) : vM w' b o vs :=
 fun j v hv => (zO2 h).trans (hc j v hv)
theorem kX.same {w w' : World} {a : Value} {sz n : Nat} {vs : List Value} (h : kX w a sz n vs) (hb : ∀ b ∈ hdr a, w'.heap[b]? = w.heap[b]?) : kX w' a sz n vs := by
 rcases h with h | ⟨b, o, cur, e, hw, hh, hv⟩
 ·exact .inl h
 ·refine .inr ⟨b, o, cur, e, hw, ?_, hv⟩
  obtain ⟨ad, cap, rfl, _, _, rfl, _⟩ := hw
  exact (hb _ (by simp [hdr])).trans hh
theorem sK.same {w w' : World} {R : Nat → Prop} {a : Value} {n : Nat} {vs : List Value} (h : sK w R a n vs) (hR : ∀ b, R b → w'.heap[b]? = w.heap[b]?) : sK w' R a n vs := by
 obtain ⟨A, cap, ha, hc, h⟩ := h
 refine ⟨A, cap, ha, hc, h.imp id fun ⟨ad, h1, h2, h3, h4⟩ => ⟨ad, h1, h2, h3, sU (hR _ h3) h4⟩⟩
mutual
theorem tK {w w' : World} {P : Nat → Nat → Prop} {R : Nat → Prop} (hP : ∀ t b, P t b → w'.heap[b]? = w.heap[b]?) (hR : ∀ b, R b → w'.heap[b]? = w.heap[b]?) :
  ∀ {x : TV}, okT w P R x → (∀ b ∈ zU x, w'.heap[b]? = w.heap[b]?) → okT w' P R x
 | .sl a tag sz n cs, h, hb => by
  simp only [okT] at h ⊢
  obtain ⟨h1, h2, h3⟩ := h
  simp only [zU] at hb
  by_cases ht : tag = 0
  ·rw [if_pos ht] at h3 hb ⊢
   exact ⟨h1, zD6 hP hR h2 (fun b h => hb b (List.mem_append_right _ h)), h3.same (fun b h => hb b (List.mem_append_left _ h))⟩
  ·rw [if_neg ht] at h3 ⊢
   have hsh : ∀ x ∈ cs, shT tag x := xU.1 h3.2.2
   refine ⟨h1, ?_, h3.1.same ?_, h3.2⟩
   ·exact uS hP hR h2 h3.2.2
   ·exact fun b hb' => hP tag b hb'
 | .dead a, h, _ => by simpa [okT] using h
 | .ifc a, h, _ => by simpa [okT] using h
 | .int _ _, _, _ => by simp [okT]
 | .bool _, _, _ => by simp [okT]
 | .str _, _, _ => by simp [okT]
 | .nili, _, _ => by simp [okT]
theorem zD6 {w w' : World} {P : Nat → Nat → Prop} {R : Nat → Prop} (hP : ∀ t b, P t b → w'.heap[b]? = w.heap[b]?) (hR : ∀ b, R b → w'.heap[b]? = w.heap[b]?) :
  ∀ {xs : List TV}, xP w P R xs → (∀ b ∈ zZ xs, w'.heap[b]? = w.heap[b]?) → xP w' P R xs
 | [], _, _ => by simp [xP]
 | x :: xs, h, hb => by
  simp only [xP, zZ] at h hb ⊢
  exact ⟨tK hP hR h.1 (fun b h => hb b (List.mem_append_left _ h)), zD6 hP hR h.2 (fun b h => hb b (List.mem_append_right _ h))⟩
theorem zIg {w w' : World} {P : Nat → Nat → Prop} {R : Nat → Prop} (hP : ∀ t b, P t b → w'.heap[b]? = w.heap[b]?) (hR : ∀ b, R b → w'.heap[b]? = w.heap[b]?) :
  ∀ {g : Nat} {x : TV}, okT w P R x → shT g x → okT w' P R x
 | g, .sl a tag sz n cs, h, hs => by
  simp only [okT, shT] at h hs ⊢
  obtain ⟨h1, h2, h3⟩ := h
  have ht : tag ≠ 0 := by omega
  rw [if_neg ht] at h3 ⊢
  refine ⟨h1, uS hP hR h2 hs.2.2, h3.1.same ?_, h3.2⟩
  exact fun b hb' => hP tag b hb'
 | _, .dead a, h, _ => by simpa [okT] using h
 | _, .ifc a, h, _ => by simpa [okT] using h
 | _, .int _ _, _, _ => by simp [okT]
 | _, .bool _, _, _ => by simp [okT]
 | _, .str _, _, _ => by simp [okT]
 | _, .nili, _, _ => by simp [okT]
theorem uS {w w' : World} {P : Nat → Nat → Prop} {R : Nat → Prop} (hP : ∀ t b, P t b → w'.heap[b]? = w.heap[b]?) (hR : ∀ b, R b → w'.heap[b]? = w.heap[b]?) :
  ∀ {g : Nat} {xs : List TV}, xP w P R xs → qZ g xs → xP w' P R xs
 | _, [], _, _ => by simp [xP]
 | g, x :: xs, h, hs => by
  simp only [xP, qZ] at h hs ⊢
  exact ⟨zIg hP hR h.1 hs.1, uS hP hR h.2 hs.2⟩
end
theorem sP {S S' : SV} {r : Root} (h : zA S' r = zA S r) (p : List Nat) (i : Nat) : at_ S' r p i = at_ S r p i := by simp [at_, h]
mutual
theorem fS {w w' : World} {P : Nat → Nat → Prop} {R : Nat → Prop} {S S' : SV} {ea : List EA} (hP : ∀ t b, P t b → w'.heap[b]? = w.heap[b]?) (hR : ∀ b, R b → w'.heap[b]? = w.heap[b]?) :
  ∀ {c : CV}, okC w P R S ea c → (∀ b ∈ zP c, w'.heap[b]? = w.heap[b]?) → (∀ r ∈ zF c, zA S' r = zA S r ∧ rootAd S' ea r = rootAd S ea r) → okC w' P R S' ea c
 | .t x, h, hb, _ => by simp only [okC, zP] at h hb ⊢; exact tK hP hR h hb
 | .ptr a r p off, h, _, hr => by
  simp only [okC, vB, zF, yV, k8] at h hr ⊢
  obtain ⟨h1, h2⟩ := hr r (by simp)
  simpa only [sP h1, h2] using h
 | .bor a r p i off sz n, h, _, hr => by
  simp only [okC, wD, zF] at h hr ⊢
  obtain ⟨h1, h2⟩ := hr r (by simp)
  simpa only [sP h1] using h
 | .rptr a cs, h, _, _ => by
  simp only [okC] at h ⊢
  obtain ⟨h1, h2, ad, h3, h4, h5⟩ := h
  exact ⟨uS hP hR h1 h2, h2, ad, h3, h4, h5.imp id fun h => ⟨h.1, sU (hR _ h.1) h.2⟩⟩
 | .fn f caps, h, _, hr => by
  simp only [okC, zF] at h hr ⊢
  exact ⟨qT hP hR h.1 (fun b hb => by rw [h.2] at hb; simp at hb) hr, h.2⟩
 | .lst a sz n cs, h, hb, hr => by
  simp only [okC, zP, zF] at h hb hr ⊢
  exact ⟨h.1, qT hP hR h.2.1 (fun b h => hb b (List.mem_append_right _ h)) hr, h.2.2.same (fun b h => hb b (List.mem_append_left _ h))⟩
 | .nilp, _, _, _ => by simp [okC]
 | .nilf, _, _, _ => by simp [okC]
theorem qT {w w' : World} {P : Nat → Nat → Prop} {R : Nat → Prop} {S S' : SV} {ea : List EA} (hP : ∀ t b, P t b → w'.heap[b]? = w.heap[b]?) (hR : ∀ b, R b → w'.heap[b]? = w.heap[b]?) :
  ∀ {cs : List CV}, yF w P R S ea cs → (∀ b ∈ zH cs, w'.heap[b]? = w.heap[b]?) → (∀ r ∈ zK cs, zA S' r = zA S r ∧ rootAd S' ea r = rootAd S ea r) → yF w' P R S' ea cs
 | [], _, _, _ => by simp [yF]
 | c :: cs, h, hb, hr => by
  simp only [yF, zH, zK] at h hb hr ⊢
  exact ⟨fS hP hR h.1 (fun b h => hb b (List.mem_append_left _ h)) (fun r h => hr r (List.mem_append_left _ h)),
   qT hP hR h.2 (fun b h => hb b (List.mem_append_right _ h)) (fun r h => hr r (List.mem_append_right _ h))⟩
end
mutual
theorem jY {w w' : World} {P : Nat → Nat → Prop} {R : Nat → Prop} {S S' : SV} {ea : List EA} (hP : ∀ t b, P t b → w'.heap[b]? = w.heap[b]?) (hR : ∀ b, R b → w'.heap[b]? = w.heap[b]?) :
  ∀ {x : XV}, okX w P R S ea x → (∀ b ∈ zE x, w'.heap[b]? = w.heap[b]?) → (∀ r ∈ zD x, zA S' r = zA S r ∧ rootAd S' ea r = rootAd S ea r) → okX w' P R S' ea x
 | .c x, h, hb, hr => by simp only [okX, zE, zD] at h hb hr ⊢; exact fS hP hR h hb hr
 | .agg cs, h, hb, hr => by simp only [okX, zE, zD] at h hb hr ⊢; exact qT hP hR h hb hr
 | .box a cs, h, hb, hr => by
  simp only [okX, zE, zD] at h hb hr ⊢
  obtain ⟨h1, ad, rfl, h2, h3, cur, e, h4, h5⟩ := h
  exact ⟨qT hP hR h1 (fun b h => hb b (List.mem_append_right _ h)) hr, ad, rfl, h2, h3, cur, e, (hb _ (by simp [hdr])).trans h4, h5⟩
 | .tup xs, h, hb, hr => by simp only [okX, zE, zD] at h hb hr ⊢; exact zD9 hP hR h hb hr
 | .undef, _, _, _ => by simp [okX]
theorem zD9 {w w' : World} {P : Nat → Nat → Prop} {R : Nat → Prop} {S S' : SV} {ea : List EA} (hP : ∀ t b, P t b → w'.heap[b]? = w.heap[b]?) (hR : ∀ b, R b → w'.heap[b]? = w.heap[b]?) :
  ∀ {xs : List XV}, xR w P R S ea xs → (∀ b ∈ xA xs, w'.heap[b]? = w.heap[b]?) → (∀ r ∈ yN xs, zA S' r = zA S r ∧ rootAd S' ea r = rootAd S ea r) → xR w' P R S' ea xs
 | [], _, _, _ => by simp [xR]
 | x :: xs, h, hb, hr => by
  simp only [xR, xA, yN] at h hb hr ⊢
  exact ⟨jY hP hR h.1 (fun b h => hb b (List.mem_append_left _ h)) (fun r h => hr r (List.mem_append_left _ h)),
   zD9 hP hR h.2 (fun b h => hb b (List.mem_append_right _ h)) (fun r h => hr r (List.mem_append_right _ h))⟩
end
def zL (S : SV) (ea : List EA) : Root → List Nat
 | .sl d => zE (S.s d)
 | .ex j => (match (ea[j]?).bind EA.ad with | some ad => [ad.block] | none => []) ++ (match S.e[j]? with | some cs => zH cs | none => [])
structure Frm (E : Nat → Prop) (w w' : World) : Prop where
 os : w'.os = w.os
 tape : w'.tape = w.tape
 output : w'.output = w.output
 size : w.heap.size ≤ w'.heap.size
 block : ∀ k, k < w.heap.size → ¬ E k → w'.heap[k]? = w.heap[k]?
theorem Frm.refl (E : Nat → Prop) (w : World) : Frm E w w := ⟨rfl, rfl, rfl, Nat.le_refl _, fun _ _ _ => rfl⟩
theorem Frm.trans {E : Nat → Prop} {a b c : World} (h : Frm E a b) (k : Frm (fun x => E x ∨ a.heap.size ≤ x) b c) : Frm E a c :=
 ⟨k.os.trans h.os, k.tape.trans h.tape, k.output.trans h.output, Nat.le_trans h.size k.size, fun i hi hE =>
  (k.block i (Nat.lt_of_lt_of_le hi h.size) (fun h' => h'.elim hE (fun h' => by omega))).trans (h.block i hi hE)⟩
theorem Frm.mono {E E' : Nat → Prop} {a b : World} (h : Frm E a b) (hE : ∀ k, E k → E' k) : Frm E' a b :=
 ⟨h.os, h.tape, h.output, h.size, fun k hk hn => h.block k hk (fun h' => hn (hE k h'))⟩
structure Rel (isv : Nat → Bool) (w0 : World) (E0 : Nat → Prop) (P : Nat → Nat → Prop) (R : Nat → Prop) (ea : List EA) (w : World) (S : SV) (tmps : Array Value) : Prop where
 val : ∀ d, d < tmps.size → S.s d = .undef ∨ tmps[d]? = some (zQ (S.s d))
 hi : ∀ d, tmps.size ≤ d → S.s d = .undef
 okS : ∀ d, okX w P R S ea (S.s d)
 okE : ∀ (j : Nat) cs, S.e[j]? = some cs → yF w P R S ea cs ∧ ∀ ad, (ea[j]?).bind EA.ad = some ad → vA w ad cs
 eaL : ea.length = S.e.length
 row : ∀ (j : Nat) vs cs, ea[j]? = some (.row vs) → S.e[j]? = some cs → yC cs = vs
 refS : ∀ d d', Root.sl d' ∈ zD (S.s d) → isv d' = true
 refE : ∀ (j : Nat) cs d', S.e[j]? = some cs → Root.sl d' ∈ zK cs → isv d' = true
 dis : ∀ r r' b, b ∈ zL S ea r → b ∈ zL S ea r' → r = r'
 nd : ∀ r, (zL S ea r).Nodup
 lt : ∀ r b, b ∈ zL S ea r → b < w.heap.size
 own : ∀ r b, b ∈ zL S ea r → E0 b ∨ w0.heap.size ≤ b
 notR : ∀ r b, b ∈ zL S ea r → ¬ R b
 PR : ∀ t b, P t b → R b
 ltR : ∀ b, R b → b < w.heap.size
 frm : Frm E0 w0 w
end Go.Proofs.YtlkjnlfddadlmaaGreatDoor.V
namespace Go.Proofs.YtlkjnlfddadlmaaGreatDoor.V
open Go.RowKit
section
variable {isv : Nat → Bool} {w0 : World} {E0 : Nat → Prop} {P : Nat → Nat → Prop} {R : Nat → Prop} {ea : List EA} {w w' : World} {S S' : SV} {tmps : Array Value}
structure Grow (w w' : World) : Prop where
 os : w'.os = w.os
 tape : w'.tape = w.tape
 output : w'.output = w.output
 size : w.heap.size ≤ w'.heap.size
 block : ∀ k, k < w.heap.size → w'.heap[k]? = w.heap[k]?
theorem Grow.refl (w : World) : Grow w w := ⟨rfl, rfl, rfl, Nat.le_refl _, fun _ _ => rfl⟩
theorem Grow.trans {a b c : World} (h : Grow a b) (k : Grow b c) : Grow a c :=
 ⟨k.os.trans h.os, k.tape.trans h.tape, k.output.trans h.output, Nat.le_trans h.size k.size, fun i hi => (k.block i (Nat.lt_of_lt_of_le hi h.size)).trans (h.block i hi)⟩
theorem Grow.alloc (w : World) (o : Obj) : Grow w (w.alloc o) := ⟨rfl, rfl, rfl, by simp, fun k hk => Below.heap_alloc w o k hk⟩
theorem Grow.drew (w : World) : Grow w w.drew := ⟨rfl, rfl, rfl, Nat.le_refl _, fun _ _ => rfl⟩
theorem Grow.frm {E : Nat → Prop} {a : World} (h : Grow w w') (k : Frm E a w) : Frm E a w' :=
 ⟨h.os.trans k.os, h.tape.trans k.tape, h.output.trans k.output, Nat.le_trans k.size h.size, fun i hi hE => (h.block i (Nat.lt_of_lt_of_le hi k.size)).trans (k.block i hi hE)⟩
theorem Rel.ltP (h : Rel isv w0 E0 P R ea w S tmps) : ∀ t b, P t b → b < w.heap.size := fun t b hb => h.ltR b (h.PR t b hb)
theorem rI {j : Nat} {cs : List CV} (h : S.e[j]? = some cs) {b : Nat} (hb : b ∈ zH cs) : b ∈ zL S ea (.ex j) := by
 simp only [zL, h]; exact List.mem_append_right _ hb
theorem rH {j : Nat} {ad : Addr} (h : (ea[j]?).bind EA.ad = some ad) : ad.block ∈ zL S ea (.ex j) := by
 simp [zL, h]
theorem vA.same {ad : Addr} {cs : List CV} (h : vA w ad cs) (hb : w'.heap[ad.block]? = w.heap[ad.block]?) : vA w' ad cs := by
 obtain ⟨h1, h2, cur, e, h3, h4⟩ := h
 exact ⟨h1, h2, cur, e, hb.trans h3, h4⟩
theorem Rel.grow (h : Rel isv w0 E0 P R ea w S tmps) (hg : Grow w w') : Rel isv w0 E0 P R ea w' S tmps where
 val := h.val
 hi := h.hi
 okS d := jY (fun _ b hb => hg.block b (h.ltP _ b hb)) (fun b hb => hg.block b (h.ltR b hb)) (h.okS d) (fun b hb => hg.block b (h.lt (.sl d) b hb)) (fun _ _ => ⟨rfl, rfl⟩)
 okE j cs hj := ⟨qT (fun _ b hb => hg.block b (h.ltP _ b hb)) (fun b hb => hg.block b (h.ltR b hb)) (h.okE j cs hj).1 (fun b hb => hg.block b (h.lt (.ex j) b (rI hj hb))) (fun _ _ => ⟨rfl, rfl⟩),
  fun ad had => ((h.okE j cs hj).2 ad had).same (hg.block _ (h.lt (.ex j) _ (rH had)))⟩
 eaL := h.eaL
 row := h.row
 refS := h.refS
 refE := h.refE
 dis := h.dis
 nd := h.nd
 lt r b hb := Nat.lt_of_lt_of_le (h.lt r b hb) hg.size
 own := h.own
 notR := h.notR
 PR := h.PR
 ltR b hb := Nat.lt_of_lt_of_le (h.ltR b hb) hg.size
 frm := hg.frm h.frm
theorem zMq {r : Root} {p : List Nat} {i : Nat} {c : CV} (h : at_ S r p i = some c) : ∃ cs, zA S r = some cs := by
 cases hr : zA S r with
 | some cs => exact ⟨cs, rfl⟩
 | none => simp [at_, hr] at h
theorem zMd {r : Root} {ad : Addr} (he : ea.length = S.e.length) (h : rootAd S ea r = some ad) : ∃ cs, zA S r = some cs := by
 cases r with
 | sl d =>
  simp only [rootAd] at h
  simp only [zA]
  split at h
  ·rename_i heq; simp [heq]
  ·cases h
 | ex j =>
  simp only [rootAd] at h
  simp only [zA]
  cases hj : ea[j]? with
  | none => simp [hj] at h
  | some o =>
   have hlt : j < ea.length := (List.getElem?_eq_some_iff.1 hj).1
   exact ⟨_, List.getElem?_eq_getElem (by omega)⟩
theorem zSm {r : Root} {p : List Nat} {off : Nat} {a : Value} (he : ea.length = S.e.length) (h : vB S ea r p off a) : ∃ cs, zA S r = some cs := by
 obtain ⟨ad, h, _⟩ := h
 simp only [yV] at h
 split at h
 ·exact zMd he h
 ·split at h
  ·rename_i heq
   simp only [k8] at heq
   split at heq
   ·rename_i h2; exact zMq h2
   ·cases heq
  ·cases h
mutual
theorem zIe (he : ea.length = S.e.length) : ∀ {c : CV}, okC w P R S ea c → ∀ r ∈ zF c, ∃ cs, zA S r = some cs
 | .t x, _, r, hr => by simp [zF] at hr
 | .ptr a r' p off, h, r, hr => by
  simp only [zF, List.mem_singleton] at hr
  subst hr
  exact zSm he (by simpa [okC] using h)
 | .bor a r' p i off sz n, h, r, hr => by
  simp only [zF, List.mem_singleton] at hr
  subst hr
  simp only [okC, wD] at h
  obtain ⟨b, m, ds, h1, _⟩ := h
  exact zMq h1
 | .rptr a cs, _, r, hr => by simp [zF] at hr
 | .fn f caps, h, r, hr => by
  simp only [zF, okC] at hr h
  exact gH he h.1 r hr
 | .lst a sz n cs, h, r, hr => by
  simp only [zF, okC] at hr h
  exact gH he h.2.1 r hr
 | .nilp, _, r, hr => by simp [zF] at hr
 | .nilf, _, r, hr => by simp [zF] at hr
theorem gH (he : ea.length = S.e.length) : ∀ {cs : List CV}, yF w P R S ea cs → ∀ r ∈ zK cs, ∃ ds, zA S r = some ds
 | [], _, r, hr => by simp [zK] at hr
 | c :: cs, h, r, hr => by
  simp only [zK, List.mem_append, yF] at hr h
  exact hr.elim (zIe he h.1 r) (gH he h.2 r)
end
mutual
theorem fV (he : ea.length = S.e.length) : ∀ {x : XV}, okX w P R S ea x → ∀ r ∈ zD x, ∃ cs, zA S r = some cs
 | .c x, h, r, hr => by simp only [okX, zD] at h hr; exact zIe he h r hr
 | .agg cs, h, r, hr => by simp only [okX, zD] at h hr; exact gH he h r hr
 | .box a cs, h, r, hr => by simp only [okX, zD] at h hr; exact gH he h.1 r hr
 | .tup xs, h, r, hr => by simp only [okX, zD] at h hr; exact zD8 he h r hr
 | .undef, _, r, hr => by simp [zD] at hr
theorem zD8 (he : ea.length = S.e.length) : ∀ {xs : List XV}, xR w P R S ea xs → ∀ r ∈ yN xs, ∃ cs, zA S r = some cs
 | [], _, r, hr => by simp [yN] at hr
 | x :: xs, h, r, hr => by
  simp only [yN, List.mem_append, xR] at hr h
  exact hr.elim (fV he h.1 r) (zD8 he h.2 r)
end
structure NoMen (S : SV) (d : Nat) : Prop where
 s : ∀ i, Root.sl d ∉ zD (S.s i)
 e : ∀ (j : Nat) cs, S.e[j]? = some cs → Root.sl d ∉ zK cs
theorem Rel.noMen (h : Rel isv w0 E0 P R ea w S tmps) {d : Nat} (hd : isv d = true → S.s d = .undef) : NoMen S d := by
 by_cases hv : isv d = true
 ·have hu := hd hv
  have hn : ∀ cs, zA S (.sl d) ≠ some cs := fun cs => by simp [zA, hu]
  refine ⟨fun i hi => ?_, fun j cs hj hi => ?_⟩
  ·obtain ⟨cs, hc⟩ := fV h.eaL (h.okS i) _ hi; exact hn cs hc
  ·obtain ⟨cs, hc⟩ := gH h.eaL (h.okE j cs hj).1 _ hi; exact hn cs hc
 ·exact ⟨fun i hi => hv (h.refS i d hi), fun j cs hj hi => hv (h.refE j cs d hj hi)⟩
theorem kT {r : Root} {d : Nat} {x : XV} (h : r ≠ .sl d) : zA { S with s := upd S.s d x } r = zA S r ∧ rootAd { S with s := upd S.s d x } ea r = rootAd S ea r := by
 cases r with
 | sl d' =>
  have : d' ≠ d := fun e => h (e ▸ rfl)
  simp [zA, rootAd, upd, this]
 | ex j => simp [zA, rootAd]
structure New (isv : Nat → Bool) (w0 : World) (E0 : Nat → Prop) (P : Nat → Nat → Prop) (R : Nat → Prop) (ea : List EA) (w : World) (S : SV) (x : XV) : Prop where
 ok : okX w P R S ea x
 refs : ∀ d', Root.sl d' ∈ zD x → isv d' = true
 nd : (zE x).Nodup
 sep : ∀ r b, b ∈ zE x → b ∉ zL S ea r
 lt : ∀ b ∈ zE x, b < w.heap.size
 own : ∀ b ∈ zE x, E0 b ∨ w0.heap.size ≤ b
 notR : ∀ b ∈ zE x, ¬ R b
theorem qD {r : Root} {d : Nat} {x : XV} (h : r ≠ .sl d) : zL { S with s := upd S.s d x } ea r = zL S ea r := by
 cases r with
 | sl d' =>
  have : d' ≠ d := fun e => h (e ▸ rfl)
  simp [zL, upd, this]
 | ex j => simp [zL]
theorem Rel.put (h : Rel isv w0 E0 P R ea w S tmps) {d : Nat} {x : XV} (hx : New isv w0 E0 P R ea w S x) (hd : isv d = true → S.s d = .undef) (hlt : d < tmps.size) :
  Rel isv w0 E0 P R ea w { S with s := upd S.s d x } (tmps.setIfInBounds d (zQ x)) := by
 have hn := h.noMen hd
 have hxn : Root.sl d ∉ zD x := by
  intro hi
  have hv := hx.refs d hi
  obtain ⟨cs, hc⟩ := fV h.eaL hx.ok _ hi
  simp [zA, hd hv] at hc
 have hroot : ∀ r, r ≠ Root.sl d → zA { S with s := upd S.s d x } r = zA S r ∧ rootAd { S with s := upd S.s d x } ea r = rootAd S ea r := fun r hr => kT hr
 constructor
 case val =>
  intro i hi
  by_cases e : i = d
  ·subst e; right; simp [upd, hlt]
  ·simp only [upd, if_neg e, Array.getElem?_setIfInBounds_ne (Ne.symm e)]
   exact h.val i (by simpa using hi)
 case hi =>
  intro i hi
  have : i ≠ d := by simp at hi; omega
  simp only [upd, if_neg this]
  exact h.hi i (by simpa using hi)
 case okS =>
  intro i
  by_cases e : i = d
  ·subst e
   simp only [upd, if_true]
   exact jY (fun _ _ _ => rfl) (fun _ _ => rfl) hx.ok (fun _ _ => rfl) (fun r hr => hroot r (fun e => hxn (e ▸ hr)))
  ·simp only [upd, if_neg e]
   exact jY (fun _ _ _ => rfl) (fun _ _ => rfl) (h.okS i) (fun _ _ => rfl) (fun r hr => hroot r (fun e => hn.s i (e ▸ hr)))
 case okE =>
  intro j cs hj
  exact ⟨qT (fun _ _ _ => rfl) (fun _ _ => rfl) (h.okE j cs hj).1 (fun _ _ => rfl) (fun r hr => hroot r (fun e => hn.e j cs hj (e ▸ hr))), (h.okE j cs hj).2⟩
 case eaL => exact h.eaL
 case row => exact h.row
 case refS =>
  intro i d' hi
  by_cases e : i = d
  ·subst e; simp only [upd, if_true] at hi; exact hx.refs d' hi
  ·simp only [upd, if_neg e] at hi; exact h.refS i d' hi
 case refE => exact h.refE
 case dis =>
  intro r r' b hb hb'
  by_cases e : r = .sl d
  ·by_cases e' : r' = .sl d
   ·rw [e, e']
   ·rw [qD e'] at hb'
    subst e
    simp only [zL, upd, if_true] at hb
    exact absurd hb' (hx.sep r' b hb)
  ·rw [qD e] at hb
   by_cases e' : r' = .sl d
   ·subst e'
    simp only [zL, upd, if_true] at hb'
    exact absurd hb (hx.sep r b hb')
   ·rw [qD e'] at hb'
    exact h.dis r r' b hb hb'
 case nd =>
  intro r
  by_cases e : r = .sl d
  ·subst e; simp only [zL, upd, if_true]; exact hx.nd
  ·rw [qD e]; exact h.nd r
 case lt =>
  intro r b hb
  by_cases e : r = .sl d
  ·subst e; simp only [zL, upd, if_true] at hb; exact hx.lt b hb
  ·rw [qD e] at hb; exact h.lt r b hb
 case own =>
  intro r b hb
  by_cases e : r = .sl d
  ·subst e; simp only [zL, upd, if_true] at hb; exact hx.own b hb
  ·rw [qD e] at hb; exact h.own r b hb
 case notR =>
  intro r b hb
  by_cases e : r = .sl d
  ·subst e; simp only [zL, upd, if_true] at hb; exact hx.notR b hb
  ·rw [qD e] at hb; exact h.notR r b hb
 case PR => exact h.PR
 case ltR => exact h.ltR
 case frm => exact h.frm
theorem Rel.clear (h : Rel isv w0 E0 P R ea w S tmps) {d : Nat} (hn : NoMen S d) : Rel isv w0 E0 P R ea w { S with s := upd S.s d .undef } tmps := by
 have hroot : ∀ r, r ≠ Root.sl d → zA { S with s := upd S.s d .undef } r = zA S r ∧ rootAd { S with s := upd S.s d .undef } ea r = rootAd S ea r := fun r hr => kT hr
 have hsub : ∀ r b, b ∈ zL { S with s := upd S.s d .undef } ea r → b ∈ zL S ea r := by
  intro r b hb
  by_cases e : r = .sl d
  ·subst e; simp [zL, upd, zE] at hb
  ·rwa [qD e] at hb
 constructor
 case val =>
  intro i hi
  by_cases e : i = d
  ·subst e; left; simp [upd]
  ·simp only [upd, if_neg e]; exact h.val i hi
 case hi =>
  intro i hi
  by_cases e : i = d
  ·subst e; simp [upd]
  ·simp only [upd, if_neg e]; exact h.hi i hi
 case okS =>
  intro i
  by_cases e : i = d
  ·subst e; simp [upd, okX]
  ·simp only [upd, if_neg e]
   exact jY (fun _ _ _ => rfl) (fun _ _ => rfl) (h.okS i) (fun _ _ => rfl) (fun r hr => hroot r (fun e => hn.s i (e ▸ hr)))
 case okE =>
  intro j cs hj
  exact ⟨qT (fun _ _ _ => rfl) (fun _ _ => rfl) (h.okE j cs hj).1 (fun _ _ => rfl) (fun r hr => hroot r (fun e => hn.e j cs hj (e ▸ hr))), (h.okE j cs hj).2⟩
 case eaL => exact h.eaL
 case row => exact h.row
 case refS =>
  intro i d' hi
  by_cases e : i = d
  ·subst e; simp [upd, zD] at hi
  ·simp only [upd, if_neg e] at hi; exact h.refS i d' hi
 case refE => exact h.refE
 case dis => exact fun r r' b hb hb' => h.dis r r' b (hsub r b hb) (hsub r' b hb')
 case nd =>
  intro r
  by_cases e : r = .sl d
  ·subst e; simp [zL, upd, zE]
  ·rw [qD e]; exact h.nd r
 case lt => exact fun r b hb => h.lt r b (hsub r b hb)
 case own => exact fun r b hb => h.own r b (hsub r b hb)
 case notR => exact fun r b hb => h.notR r b (hsub r b hb)
 case PR => exact h.PR
 case ltR => exact h.ltR
 case frm => exact h.frm
end
end Go.Proofs.YtlkjnlfddadlmaaGreatDoor.V
namespace Go.Proofs.YtlkjnlfddadlmaaGreatDoor.V
open Go.RowKit
def aX : Value → Bool
 | .agg _ => true
 | _ => false
def zFl : TypeDesc → Bool
 | .struct _ => true
 | .array _ _ => true
 | _ => false
def zPc (d : TypeDesc) (l : List (Nat × Nat)) : Bool :=
 match d with
 | .struct fs => fs.toList.map (fun f => (f.offset, f.type)) == l
 | _ => l == []
def elIs (d : TypeDesc) (o : Option Nat) : Bool :=
 match d with
 | .slice e => o == some e
 | _ => o == none
def j5 (P : Program) (d : TypeDesc) : Nat → Bool
 | 1 => (match d with | .int .i64 => true | _ => false)
 | 2 => (match d with | .int .u8 => true | _ => false)
 | 3 => (match d with | .string => true | _ => false)
 | 4 => (match d with | .slice e => (match P.underlying e with | some (.int .u8) => true | _ => false) | _ => false)
 | 5 => (match d with | .bool => true | _ => false)
 | 6 => (match d with | .pointer _ => true | _ => false)
 | 7 => (match d with | .interface _ => true | _ => false)
 | _ => true
def tyCk (P : Program) (ty : Nat → Ty) (t : Nat) : Bool :=
 match P.info? t, P.underlying t with
 | some i, some d =>
  ((ty t).zs.length == (ty t).sz && i.size == (ty t).sz) && i.bytes == (ty t).bytes && (zFl d == (ty t).agg) &&
  (match i.zero with
   | some z => q6 (ty t).zs z.cells.toList && (aX z == (ty t).agg)
   | none => false) &&
  zPc d (ty t).fs && elIs d (ty t).el && j5 P d (ty t).kind
 | _, _ => false
def jB (P : Program) (ty : Nat → Ty) : Prop := ∀ t, (ty t).ok = true → tyCk P ty t = true
def zG : CU → CV
 | .t (.int k n) => .t (.int k n)
 | .t (.bool b) => .t (.bool b)
 | .t (.str s) => .t (.str s)
 | .t (.sl _ tag sz n _) => .t (.sl (.slice none 0 0) tag sz n [])
 | .t .nili => .t .nili
 | .nilp => .nilp
 | .nilf => .nilf
 | _ => .nilp
theorem zMb {c : CU} {v : Value} (h : zCv c v = true) : zJ (zG c) = v ∧ erC (zG c) = c ∧ zP (zG c) = [] ∧ zF (zG c) = [] ∧ ∀ (w : World) (P : Nat → Nat → Prop) (R : Nat → Prop) (S : SV) (ea : List EA), okC w P R S ea (zG c) := by
 unfold zCv at h
 split at h
 ·simp only [Bool.and_eq_true, decide_eq_true_eq] at h
  obtain ⟨rfl, rfl⟩ := h
  simp [zG, zJ, zV, erC, zI, yA, zP, zU, zF, okC, okT]
 ·simp only [beq_iff_eq] at h
  subst h
  simp [zG, zJ, zV, erC, zI, yA, zP, zU, zF, okC, okT]
 ·rename_i s
  simp only [beq_iff_eq] at h
  obtain ⟨d⟩ := s
  simp only at h
  subst h
  simp [zG, zJ, zV, erC, zI, yA, zP, zU, zF, okC, okT]
 ·simp [zG, zJ, zV, erC, zI, yA, kH, zP, zU, zZ, zF, okC, okT, xP, hdr, kX, er0]
 ·simp [zG, zJ, zV, erC, zI, yA, zP, zU, zF, okC, okT]
 ·simp [zG, zJ, erC, zI, zP, zF, okC]
 ·simp [zG, zJ, erC, zI, zP, zF, okC]
 ·cases h
theorem kW : ∀ {cs : List CU} {vs : List Value}, q6 cs vs = true → (cs.map zG).map zJ = vs ∧ (cs.map zG).map erC = cs ∧ zH (cs.map zG) = [] ∧ zK (cs.map zG) = [] ∧
  ∀ (w : World) (P : Nat → Nat → Prop) (R : Nat → Prop) (S : SV) (ea : List EA), yF w P R S ea (cs.map zG)
 | [], [], _ => by simp [zH, zK, yF]
 | [], _ :: _, h => by simp [q6] at h
 | _ :: _, [], h => by simp [q6] at h
 | c :: cs, v :: vs, h => by
  simp only [q6, Bool.and_eq_true] at h
  obtain ⟨h1, h2, h3, h4, h5⟩ := zMb h.1
  obtain ⟨i1, i2, i3, i4, i5⟩ := kW h.2
  refine ⟨by simp [h1, i1], by simp [h2, i2], by simp [zH, h3, i3], by simp [zK, h4, i4], fun w P R S ea => ⟨h5 w P R S ea, i5 w P R S ea⟩⟩
theorem uY : ∀ {cs : List CU} {vs : List Value}, q6 cs vs = true → cs.length = vs.length
 | [], [], _ => rfl
 | [], _ :: _, h => by simp [q6] at h
 | _ :: _, [], h => by simp [q6] at h
 | c :: cs, v :: vs, h => by simp only [q6, Bool.and_eq_true] at h; simp [uY h.2]
structure TyFacts (P : Program) (ty : Nat → Ty) (t : Nat) (i : TypeInfo) (d : TypeDesc) (z : Value) : Prop where
 info : P.info? t = some i
 und : P.underlying t = some d
 zlen : (ty t).zs.length = (ty t).sz
 size : i.size = (ty t).sz
 bytes : i.bytes = (ty t).bytes
 agg : zFl d = (ty t).agg
 zero : i.zero = some z
 zs : q6 (ty t).zs z.cells.toList = true
 zagg : aX z = (ty t).agg
 fs : zPc d (ty t).fs = true
 el : elIs d (ty t).el = true
 kind : j5 P d (ty t).kind = true
theorem jB.facts {P : Program} {ty : Nat → Ty} (h : jB P ty) {t : Nat} (ht : (ty t).ok = true) : ∃ i d z, TyFacts P ty t i d z := by
 have hc := h t ht
 unfold tyCk at hc
 split at hc
 ·rename_i i d hi hd
  simp only [Bool.and_eq_true, beq_iff_eq] at hc
  obtain ⟨⟨⟨⟨⟨⟨⟨h0, h1⟩, h2⟩, h3⟩, h4⟩, h5⟩, h6⟩, h7⟩ := hc
  cases hz : i.zero with
  | none => simp [hz] at h4
  | some z =>
   simp only [hz, Bool.and_eq_true, beq_iff_eq] at h4
   exact ⟨i, d, z, hi, hd, h0, h1, h2, h3, hz, h4.1, h4.2, h5, h6, h7⟩
 ·cases hc
theorem TyFacts.slice {P : Program} {ty : Nat → Ty} {t : Nat} {i : TypeInfo} {d : TypeDesc} {z : Value} (h : TyFacts P ty t i d z) {e : Nat} (he : (ty t).el = some e) : d = .slice e := by
 have := h.el
 rw [he] at this
 cases d <;> simp [elIs] at this
 subst this
 rfl
theorem TyFacts.field {P : Program} {ty : Nat → Ty} {t : Nat} {i : TypeInfo} {d : TypeDesc} {z : Value} (h : TyFacts P ty t i d z) {k off ft : Nat} (he : (ty t).fs[k]? = some (off, ft)) :
  ∃ fs fd, d = .struct fs ∧ fs[k]? = some fd ∧ fd.offset = off ∧ fd.type = ft := by
 have := h.fs
 cases d with
 | struct fs =>
  simp only [zPc, beq_iff_eq] at this
  rw [← this, List.getElem?_map] at he
  cases hf : fs.toList[k]? with
  | none => simp [hf] at he
  | some fd =>
   simp only [hf, Option.map_some, Option.some.injEq, Prod.mk.injEq] at he
   exact ⟨fs, fd, rfl, by simpa using hf, he.1, he.2⟩
 | _ => simp only [zPc, beq_iff_eq] at this; rw [this] at he; simp at he
section
variable {cx : Ctx} {f : Nat} {w0 : World} {E0 : Nat → Prop} {P : Nat → Nat → Prop} {R : Nat → Prop} {ea : List EA} {w w' : World} {S : SV} {tmps : Array Value} {Pr : Program}
theorem gT (o : Operand) : erS (clr cx f S o) = clr cx f (erS S) o := by
 cases o with
 | tmp d =>
  simp only [clr]
  split
  ·rfl
  ·have h : yQ ((erS S).s d) = yQ (S.s d) := zAu er0 (S.s d)
   rw [h]
   split
   ·simp only [erS, jJ, aI, zW]
   ·rfl
 | _ => rfl
theorem New.plain {x : XV} (hok : okX w P R S ea x) (hb : zE x = []) (hr : zD x = []) {isv : Nat → Bool} : New isv w0 E0 P R ea w S x :=
 ⟨hok, fun d' h => by rw [hr] at h; simp at h, by rw [hb]; exact List.nodup_nil, fun r b h => by rw [hb] at h; simp at h, fun b h => by rw [hb] at h; simp at h, fun b h => by rw [hb] at h; simp at h, fun b h => by rw [hb] at h; simp at h⟩
theorem aY {c : CV} (hok : okC w P R S ea c) (h : x9 c = false) : zP c = [] := by
 cases c with
 | t x =>
  cases x with
  | sl a tag sz n cs =>
   cases tag with
   | zero => simp [x9] at h
   | succ m => simp [zP, zU]
  | _ => simp [zP, zU]
 | fn g caps => simp [zP]
 | lst a sz n cs => simp [x9] at h
 | _ => simp [zP]
theorem eR : ∀ {cs : List CV}, yF w P R S ea cs → cs.any x9 = false → zH cs = []
 | [], _, _ => by simp [zH]
 | c :: cs, h, ho => by
  simp only [List.any_cons, Bool.or_eq_false_iff] at ho
  simp only [zH, aY h.1 ho.1, eR h.2 ho.2, List.append_nil]
mutual
theorem rM : ∀ {x : XV}, okX w P R S ea x → yQ x = false → zE x = []
 | .c x, h, ho => by simp only [okX, yQ, zE] at h ho ⊢; exact aY h ho
 | .agg cs, h, ho => by simp only [okX, yQ, zE] at h ho ⊢; exact eR h ho
 | .box a cs, h, ho => by simp [yQ] at ho
 | .tup xs, h, ho => by simp only [okX, yQ, zE] at h ho ⊢; exact oR h ho
 | .undef, _, _ => by simp [zE]
theorem oR : ∀ {xs : List XV}, xR w P R S ea xs → xs.any zN1 = false → xA xs = []
 | [], _, _ => by simp [xA]
 | x :: xs, h, ho => by
  simp only [List.any_cons, Bool.or_eq_false_iff] at ho
  simp only [xA]
  rw [oR h.2 ho.2, List.append_nil]
  refine rM h.1 ?_
  cases x <;> first | exact ho.1 | rfl | exact absurd ho.1 (by simp [zN1])
end
end
end Go.Proofs.YtlkjnlfddadlmaaGreatDoor.V
namespace Go.Proofs.YtlkjnlfddadlmaaGreatDoor.V
open Go.RowKit
section
variable {cx : Ctx} {f : Nat} {w0 : World} {E0 : Nat → Prop} {P : Nat → Nat → Prop} {R : Nat → Prop} {ea : List EA} {w w' : World} {S : SV} {tmps : Array Value} {Pr : Program}
theorem zO1 {r : Root} {p : List Nat} {i sz n : Nat} {a : Value} {cs : List TV} (hat : at_ S r p i = some (.t (.sl a 0 sz n cs))) (hok : okT w P R (.sl a 0 sz n cs)) : wD S r p i 0 sz n a := by
 simp only [okT, if_true] at hok
 obtain ⟨h1, _, h3⟩ := hok
 refine ⟨a, n, cs, hat, by omega, ?_⟩
 rcases h3 with ⟨rfl, hn⟩ | ⟨b, o, cur, e, ⟨ad, cap, rfl, hc, hs, hb, hr⟩, _, _⟩
 ·exact .inl ⟨rfl, rfl, hn⟩
 ·exact .inr ⟨ad, cap, rfl, ad, cap, rfl, hc, hs, rfl, .inr ⟨rfl, by omega⟩⟩
theorem zK7 {a : Value} {tag sz n : Nat} {cs : List TV} (h : okT w P R (.sl a tag sz n cs)) : a.oneCell' = true := by
 simp only [okT] at h
 obtain ⟨_, _, h⟩ := h
 split at h
 ·rcases h with ⟨rfl, _⟩ | ⟨b, o, cur, e, ⟨ad, cap, rfl, _⟩, _⟩ <;> rfl
 ·obtain ⟨⟨A, cap, rfl, _⟩, _⟩ := h; rfl
theorem zIi {a : Value} {sz n : Nat} {vs : List Value} (h : kX w a sz n vs) : a.oneCell' = true := by
 rcases h with ⟨rfl, _⟩ | ⟨b, o, cur, e, ⟨ad, cap, rfl, _⟩, _⟩ <;> rfl
theorem lE {a : Value} {sz n : Nat} {vs : List Value} (h : kX w a sz n vs) : ∃ A n c, a = .slice A n c := by
 rcases h with ⟨rfl, _⟩ | ⟨b, o, cur, e, ⟨ad, cap, rfl, _⟩, _⟩ <;> exact ⟨_, _, _, rfl⟩
theorem zF6 {r : Root} {p : List Nat} {i : Nat} {c : CV} (hat : at_ S r p i = some c) (hok : okC w P R S ea c) :
  okC w P R S ea (rdc r p i c) ∧ zJ (rdc r p i c) = zJ c ∧ zP (rdc r p i c) = [] ∧ ∀ q ∈ zF (rdc r p i c), q = r ∨ q ∈ zF c := by
 cases c with
 | t x =>
  cases x with
  | sl a tag sz n cs =>
   cases tag with
   | zero =>
    refine ⟨?_, by simp [rdc, zJ, zV], by simp [rdc, zP], by simp [rdc, zF]⟩
    simp only [rdc, okC] at hok ⊢
    exact zO1 hat hok
   | succ m => exact ⟨by simpa [rdc] using hok, by simp [rdc], by simp [rdc, zP, zU], by simp [rdc, zF]⟩
  | _ => exact ⟨by simpa [rdc] using hok, by simp [rdc], by simp [rdc, zP, zU], by simp [rdc, zF]⟩
 | lst a sz n cs =>
  simp only [okC] at hok
  refine ⟨?_, by simp [rdc, zJ, zV], by simp [rdc, zP, zU], by simp [rdc, zF]⟩
  simp only [rdc, okC, okT]
  exact .inl (lE hok.2.2)
 | fn g caps => exact ⟨by simpa [rdc] using hok, by simp [rdc], by simp [rdc, zP], fun q hq => .inr (by simpa [rdc] using hq)⟩
 | _ => exact ⟨by simpa [rdc] using hok, by simp [rdc], by simp [rdc, zP], fun q hq => .inr (by simpa [rdc] using hq)⟩
theorem zF7 {r : Root} : ∀ {cs : List CV} {i : Nat}, (∀ k c, cs[k]? = some c → at_ S r [] (i + k) = some c) → yF w P R S ea cs →
  yF w P R S ea (mA r i cs) ∧ yC (mA r i cs) = yC cs ∧ zH (mA r i cs) = [] ∧ ∀ q ∈ zK (mA r i cs), q = r ∨ q ∈ zK cs
 | [], i, _, _ => by simp [mA, yF, yC, zH, zK]
 | c :: cs, i, hat, hok => by
  obtain ⟨h1, h2, h3, h4⟩ := zF6 (hat 0 c (by simp)) hok.1
  simp only [Nat.add_zero] at h1 h2 h3 h4
  obtain ⟨i1, i2, i3, i4⟩ := zF7 (cs := cs) (i := i + 1) (fun k c' hk => by have := hat (k + 1) c' (by simpa using hk); rwa [show i + (k + 1) = i + 1 + k by omega] at this) hok.2
  refine ⟨⟨h1, i1⟩, by simp [mA, yC, h2, i2], by simp [mA, zH, h3, i3], ?_⟩
  intro q hq
  simp only [mA, zK, List.mem_append] at hq ⊢
  rcases hq with hq | hq
  ·exact (h4 q hq).imp id .inl
  ·exact (i4 q hq).imp id .inr
theorem zB4 {α β : Type} (g : α → β) (r : Root) : ∀ (cs : List (C α)) (i : Nat), mA r i (cs.map (zI g)) = (mA r i cs).map (zI g)
 | [], i => by simp [mA]
 | c :: cs, i => by simp [mA, eK, zB4 g r cs (i + 1)]
theorem zU3 {α β : Type} (g : α → β) (v : Bool) (t : Nat) (x : X α) : rdS v t (zW g x) = (rdS v t x).map (zW g) := by
 cases x with
 | c x => cases v <;> simp [rdS, zW, eK]
 | agg cs => cases v <;> simp [rdS, zW, zB4, zR]
 | box a cs => cases v <;> simp [rdS, zW, zI]
 | tup xs => cases v <;> simp [rdS, zW]
 | undef => simp [rdS, zW]
theorem Rel.clr (h : Rel (zB cx f) w0 E0 P R ea w S tmps) (o : Operand) : Rel (zB cx f) w0 E0 P R ea w (clr cx f S o) tmps := by
 cases o with
 | tmp d =>
  simp only [V.clr]
  split
  ·exact h
  ·rename_i hv
   split
   ·exact h.clear (h.noMen (fun h' => absurd h' hv))
   ·exact h
 | _ => exact h
structure Opv (cx : Ctx) (f : Nat) (w0 : World) (E0 : Nat → Prop) (P : Nat → Nat → Prop) (R : Nat → Prop) (ea : List EA) (w : World) (S : SV) (a : Act) (o : Operand) (x : XU) (xG : XV) : Prop where
 er : erX xG = x
 val : a.eval o = zQ xG
 ok : okX w P R S ea xG
 new : New (zB cx f) w0 E0 P R ea w (clr cx f S o) xG
 src : ∀ b ∈ zE xG, ∃ r, b ∈ zL S ea r
theorem Rel.slot (h : Rel (zB cx f) w0 E0 P R ea w S tmps) {d : Nat} (hu : S.s d ≠ .undef) : tmps[d]? = some (zQ (S.s d)) := by
 have hlt : d < tmps.size := by
  rcases Nat.lt_or_ge d tmps.size with h' | h'
  ·exact h'
  ·exact absurd (h.hi d h') hu
 exact (h.val d hlt).resolve_left hu
theorem Rel.opTmp (h : Rel (zB cx f) w0 E0 P R ea w S tmps) {a : Act} (ha : a.tmps = tmps) {d : Nat} {x : XU} (hx : rdS (zB cx f d) d ((erS S).s d) = some x) :
  ∃ xG, Opv cx f w0 E0 P R ea w S a (.tmp d) x xG := by
 have hm : rdS (zB cx f d) d ((erS S).s d) = (rdS (zB cx f d) d (S.s d)).map erX := zU3 er0 _ _ _
 rw [hm] at hx
 cases hr : rdS (zB cx f d) d (S.s d) with
 | none => simp [hr] at hx
 | some xG =>
  simp only [hr, Option.map_some, Option.some.injEq] at hx
  have hu : S.s d ≠ .undef := by intro e; simp [e, rdS] at hr
  have hslot := h.slot hu
  have hval : a.eval (.tmp d) = zQ (S.s d) := by simp [Act.eval, ha, hslot]
  have hd := h.okS d
  by_cases hv : zB cx f d = true
  ·-- a name's slot: what is owned is referred to
   have hclr : V.clr cx f S (.tmp d) = S := by simp [V.clr, hv]
   have key : okX w P R S ea xG ∧ zQ xG = zQ (S.s d) ∧ zE xG = [] ∧ ∀ q ∈ zD xG, q = Root.sl d ∨ q ∈ zD (S.s d) := by
    rw [hv] at hr
    cases hs : S.s d with
    | undef => simp [hs, rdS] at hr
    | box b cs =>
     simp only [hs, rdS, if_true, Option.some.injEq] at hr
     subst hr
     rw [hs] at hd
     simp only [okX] at hd
     obtain ⟨_, ad, rfl, h1, h2, _⟩ := hd
     refine ⟨?_, by simp [zQ, zJ], by simp [zE, zP], by simp [zD, zF]⟩
     simp only [okX, okC, vB, yV, if_true, rootAd, hs]
     refine ⟨ad, rfl, ?_⟩
     obtain ⟨b', o', s'⟩ := ad
     simp only at h1 h2
     subst h1; subst h2
     rfl
    | c c0 =>
     simp only [hs, rdS, if_true, Option.some.injEq] at hr
     subst hr
     rw [hs] at hd
     have hat : at_ S (.sl d) [] 0 = some c0 := by simp [at_, zA, hs, y9]
     obtain ⟨k1, k2, k3, k4⟩ := zF6 hat (by simpa [okX] using hd)
     exact ⟨by simpa [okX] using k1, by simpa [zQ] using k2, by simpa [zE] using k3, by simpa [zD] using k4⟩
    | agg cs =>
     simp only [hs, rdS, if_true, Option.some.injEq] at hr
     subst hr
     rw [hs] at hd
     have hat : ∀ k c, cs[k]? = some c → at_ S (.sl d) [] (0 + k) = some c := fun k c hk => by simp [at_, zA, hs, y9, hk]
     obtain ⟨k1, k2, k3, k4⟩ := zF7 hat (by simpa [okX] using hd)
     exact ⟨by simpa [okX] using k1, by simp [zQ, k2], by simpa [zE] using k3, by simpa [zD] using k4⟩
    | tup xs => simp [hs, rdS] at hr
   obtain ⟨k1, k2, k3, k4⟩ := key
   refine ⟨xG, hx, by rw [hval, k2], k1, ?_, fun b hb => by rw [k3] at hb; simp at hb⟩
   rw [hclr]
   refine ⟨k1, ?_, by rw [k3]; exact List.nodup_nil, fun r b hb => by rw [k3] at hb; simp at hb, fun b hb => by rw [k3] at hb; simp at hb, fun b hb => by rw [k3] at hb; simp at hb, fun b hb => by rw [k3] at hb; simp at hb⟩
   intro d' hd'
   rcases k4 _ hd' with e | e
   ·simp only [Root.sl.injEq] at e; rw [e]; exact hv
   ·exact h.refS d d' e
  ·-- a temporary: its content itself
   have hvf : zB cx f d = false := by simpa using hv
   have hxs : xG = S.s d := by
    rw [hvf] at hr
    cases hs : S.s d <;> simp [hs, rdS] at hr ⊢ <;> exact hr.symm
   subst hxs
   refine ⟨S.s d, hx, hval, hd, ?_, fun b hb => ⟨.sl d, hb⟩⟩
   have hnm := h.noMen (d := d) (fun h' => absurd h' hv)
   by_cases ho : yQ (S.s d) = true
   ·have hclr : V.clr cx f S (.tmp d) = { S with s := upd S.s d .undef } := by simp [V.clr, hvf, ho]
    rw [hclr]
    refine ⟨jY (fun _ _ _ => rfl) (fun _ _ => rfl) hd (fun _ _ => rfl) (fun r hr => kT (fun e => hnm.s d (e ▸ hr))), fun d' hd' => h.refS d d' hd', h.nd (.sl d), ?_, h.lt (.sl d), h.own (.sl d), h.notR (.sl d)⟩
    intro r b hb hb'
    by_cases e : r = .sl d
    ·subst e; simp [zL, upd, zE] at hb'
    ·rw [qD e] at hb'
     exact e (h.dis _ _ b hb' hb)
   ·have hof : yQ (S.s d) = false := by simpa using ho
    have hclr : V.clr cx f S (.tmp d) = S := by simp [V.clr, hvf, hof]
    rw [hclr]
    have hb := rM hd hof
    exact ⟨hd, fun d' hd' => h.refS d d' hd', by rw [hb]; exact List.nodup_nil, fun r b hb' => by rw [hb] at hb'; simp at hb', fun b hb' => by rw [hb] at hb'; simp at hb', fun b hb' => by rw [hb] at hb'; simp at hb', fun b hb' => by rw [hb] at hb'; simp at hb'⟩
theorem zO4 (t : Nat) (v : Value) {x : XU} (hx : rJ cx t v = some x) : ∃ xG, erX xG = x ∧ zQ xG = v ∧ zE xG = [] ∧ zD xG = [] ∧ ∀ (w : World) (P : Nat → Nat → Prop) (R : Nat → Prop) (S : SV) (ea : List EA), okX w P R S ea xG := by
 unfold rJ at hx
 split at hx <;> (try simp only [Option.some.injEq] at hx)
 ·subst hx; rename_i k n; exact ⟨.c (.t (.int k n)), by simp [erX, zW, zI, yA], rfl, by simp [zE, zP, zU], by simp [zD, zF], by simp [okX, okC, okT]⟩
 ·subst hx; rename_i b; exact ⟨.c (.t (.bool b)), by simp [erX, zW, zI, yA], rfl, by simp [zE, zP, zU], by simp [zD, zF], by simp [okX, okC, okT]⟩
 ·subst hx; rename_i s; exact ⟨.c (.t (.str s.data.toList)), by simp [erX, zW, zI, yA], by simp [zQ, zJ, zV], by simp [zE, zP, zU], by simp [zD, zF], by simp [okX, okC, okT]⟩
 ·split at hx
  ·simp only [Option.some.injEq] at hx
   subst hx
   exact ⟨.c (.t (.sl (.slice none 0 0) 0 (elSz cx t) 0 [])), by simp [erX, zW, zI, yA, kH, er0], rfl, by simp [zE, zP, zU, zZ, hdr], by simp [zD, zF], by simp [okX, okC, okT, xP, kX]⟩
  ·cases hx
 ·subst hx; exact ⟨.c (.t .nili), by simp [erX, zW, zI, yA], rfl, by simp [zE, zP, zU], by simp [zD, zF], by simp [okX, okC, okT]⟩
 ·subst hx; exact ⟨.c .nilp, by simp [erX, zW, zI], rfl, by simp [zE, zP], by simp [zD, zF], by simp [okX, okC]⟩
 ·subst hx; exact ⟨.c .nilf, by simp [erX, zW, zI], rfl, by simp [zE, zP], by simp [zD, zF], by simp [okX, okC]⟩
 ·split at hx
  ·next vs hc =>
   simp only [Option.some.injEq] at hx
   subst hx
   simp only [Bool.and_eq_true] at hc
   obtain ⟨h1, h2, h3, h4, h5⟩ := kW hc.2
   refine ⟨.agg ((cx.ty t).zs.map zG), ?_, ?_, by simp only [zE]; exact h3, by simp only [zD]; exact h4, fun w P R S ea => by simp only [okX]; exact h5 w P R S ea⟩
   ·simp only [erX, zW, zR]; exact congrArg _ h2
   ·simp only [zQ, z8, h1, Array.toArray_toList]
  ·cases hx
 ·cases hx
theorem Rel.opv (h : Rel (zB cx f) w0 E0 P R ea w S tmps) {a : Act} (ha : a.tmps = tmps) {t : Nat} {o : Operand} {x : XU} (hx : opv cx f (erS S) t o = some x) :
  ∃ xG, Opv cx f w0 E0 P R ea w S a o x xG := by
 cases o with
 | tmp d => exact h.opTmp ha hx
 | const v =>
  obtain ⟨xG, h1, h2, h3, h4, h5⟩ := zO4 t v hx
  exact ⟨xG, h1, by simp [Act.eval, h2], h5 _ _ _ _ _, New.plain (h5 _ _ _ _ _) h3 h4, fun b hb => by rw [h3] at hb; simp at hb⟩
 | func g =>
  simp only [V.opv, Option.some.injEq] at hx
  subst hx
  exact ⟨.c (.fn g []), by simp [erX, zW, zI, yY], by simp [Act.eval, zQ, zJ, yC], by simp [okX, okC, yF, zH],
   New.plain (by simp [okX, okC, yF, zH]) (by simp [zE, zP]) (by simp [zD, zF, zK]), fun b hb => by simp [zE, zP] at hb⟩
 | global g => simp [V.opv] at hx
end
end Go.Proofs.YtlkjnlfddadlmaaGreatDoor.V
namespace Go.Proofs.YtlkjnlfddadlmaaGreatDoor.V
open Go.RowKit
section
variable {isv : Nat → Bool} {w0 : World} {E0 : Nat → Prop} {P : Nat → Nat → Prop} {R : Nat → Prop} {ea : List EA} {w w' : World} {S : SV} {tmps : Array Value} {α : Type}
theorem zJx : ∀ (p : List Nat) (cs : List (T α)) (i : Nat), sub cs (p ++ [i]) = (sub cs p).bind fun ds => match ds[i]? with
  | some (.sl _ 0 _ _ es) => some es
  | _ => none
 | [], cs, i => by
  simp only [List.nil_append, sub, Option.bind_some]
  try (split <;> simp_all [sub])
 | k :: p, cs, i => by
  simp only [List.cons_append, sub]
  split
  ·rename_i heq; exact zJx p _ i
  ·simp
theorem zP8 (p : List Nat) (cs : List (C α)) (i : Nat) : y9 cs (p ++ [i]) = (y9 cs p).bind fun ds => match ds[i]? with
  | some (.t (.sl _ 0 _ _ es)) => some (es.map .t)
  | _ => none := by
 cases p with
 | nil =>
  simp only [List.nil_append, y9, Option.bind_some]
  split <;> simp_all [sub]
 | cons k p =>
  simp only [List.cons_append, y9]
  split
  ·rename_i ds heq
   rw [zJx]
   cases hs : sub ds p with
   | none => simp
   | some es =>
    simp only [Option.bind_some, Option.map_some, List.getElem?_map]
    cases hi : es[i]? with
    | none => simp
    | some x =>
     cases x with
     | sl a tag sz n fs => cases tag <;> simp
     | _ => simp
  ·simp
theorem iW (S : St α) (r : Root) (p : List Nat) (i off : Nat) : at_ S r (p ++ [i]) off = match at_ S r p i with
  | some (.t (.sl _ 0 _ _ ds)) => (ds[off]?).map .t
  | _ => none := by
 simp only [at_]
 cases zA S r with
 | none => simp
 | some cs =>
  simp only [Option.bind_some, zP8]
  cases y9 cs p with
  | none => simp
  | some ds =>
   simp only [Option.bind_some]
   cases ds[i]? with
   | none => simp
   | some c =>
    cases c with
    | t x =>
     cases x with
     | sl a tag sz n fs => cases tag <;> simp
     | _ => simp
    | _ => simp
theorem zTk : ∀ {p : List Nat} {cs ds : List TV}, xP w P R cs → sub cs p = some ds → xP w P R ds
 | [], cs, ds, h, hs => by simp only [sub, Option.some.injEq] at hs; exact hs ▸ h
 | i :: p, cs, ds, h, hs => by
  simp only [sub] at hs
  split at hs
  ·rename_i a sz n es heq
   have := yJ.1 h _ (List.mem_of_getElem? heq)
   simp only [okT] at this
   exact zTk this.2.1 hs
  ·cases hs
theorem zVf {p : List Nat} {cs ds : List CV} (h : yF w P R S ea cs) (hs : y9 cs p = some ds) : yF w P R S ea ds := by
 cases p with
 | nil => simp only [y9, Option.some.injEq] at hs; exact hs ▸ h
 | cons i p =>
  simp only [y9] at hs
  split at hs
  ·rename_i a sz n es heq
   have := zY.1 h _ (List.mem_of_getElem? heq)
   simp only [okC, okT] at this
   cases hf : sub es p with
   | none => simp [hf] at hs
   | some fs =>
    simp only [hf, Option.map_some, Option.some.injEq] at hs
    subst hs
    refine zY.2 ?_
    intro c hc
    obtain ⟨x, hx, rfl⟩ := List.mem_map.1 hc
    simp only [okC]
    exact yJ.1 (zTk this.2.1 hf) x hx
  ·cases hs
theorem zHs : ∀ {xs : List XV}, xR w P R S ea xs → yF w P R S ea (zT xs)
 | [], _ => by simp [zT, yF]
 | x :: xs, h => by
  have ih := zHs h.2
  cases x with
  | c x => exact ⟨h.1, ih⟩
  | agg cs =>
   simp only [zT]
   refine zY.2 ?_
   intro c hc
   rcases List.mem_append.1 hc with hc | hc
   ·exact zY.1 h.1 c hc
   ·exact zY.1 ih c hc
  | _ => simpa [zT] using ih
theorem Rel.root_ok (h : Rel isv w0 E0 P R ea w S tmps) {r : Root} {cs : List CV} (hr : zA S r = some cs) : yF w P R S ea cs := by
 cases r with
 | sl d =>
  simp only [zA] at hr
  have hd := h.okS d
  cases hs : S.s d with
  | undef => simp [hs] at hr
  | c x => simp only [hs, Option.some.injEq] at hr; subst hr; rw [hs] at hd; exact ⟨hd, trivial⟩
  | agg xs => simp only [hs, Option.some.injEq] at hr; subst hr; rw [hs] at hd; exact hd
  | box a xs => simp only [hs, Option.some.injEq] at hr; subst hr; rw [hs] at hd; exact hd.1
  | tup xs => simp only [hs, Option.some.injEq] at hr; subst hr; rw [hs] at hd; exact zHs hd
 | ex j => exact (h.okE j cs hr).1
theorem Rel.at_ok (h : Rel isv w0 E0 P R ea w S tmps) {r : Root} {p : List Nat} {i : Nat} {c : CV} (ha : at_ S r p i = some c) : okC w P R S ea c := by
 simp only [at_] at ha
 cases hr : zA S r with
 | none => simp [hr] at ha
 | some cs =>
  simp only [hr, Option.bind_some] at ha
  cases hs : y9 cs p with
  | none => simp [hs] at ha
  | some ds =>
   simp only [hs, Option.bind_some] at ha
   exact zY.1 (zVf (h.root_ok hr) hs) c (List.mem_of_getElem? ha)
theorem j0 {p : List Nat} (hp : p ≠ []) : p = p.dropLast ++ [p.getLast?.getD 0] := by
 rw [List.getLast?_eq_some_getLast hp]
 simp only [Option.getD_some]
 exact (List.dropLast_concat_getLast hp).symm
theorem zSh {a : Value} {sz n : Nat} {cs : List Value} {ad : Addr} {cap : Nat} (hl : cs.length = n * sz) (ho : kX w a sz n cs) (ha : a = .slice (some ad) n cap) {j : Nat} {v : Value} (hj : cs[j]? = some v) :
  w.cell? ⟨ad.block, ad.off + j, none⟩ = some v ∧ w.frozen? ⟨ad.block, ad.off + j, none⟩ = false ∧ ∃ cur e, w.heap[ad.block]? = some (.cells cur e (0, 0)) ∧ ad.off + cap * sz ≤ cur.size := by
 subst ha
 rcases ho with ⟨h1, _⟩ | ⟨b, o, cur, e, ⟨ad', cap', h1, h2, h3, rfl, h4⟩, hh, hv⟩
 ·cases h1
 ·simp only [Value.slice.injEq, Option.some.injEq] at h1
  obtain ⟨rfl, _, rfl⟩ := h1
  have hpos : j < n * sz := by rw [← hl]; exact (List.getElem?_eq_some_iff.1 hj).1
  have hcap : cap ≠ 0 := by
   intro e0
   have : n = 0 := by omega
   subst this; simp at hpos
  obtain ⟨rfl, h5⟩ := h4.resolve_left hcap
  refine ⟨?_, ?_, cur, e, hh, h5⟩
  ·simp only [World.cell?, hh, Option.isSome_none, Bool.false_eq_true, if_false]; exact hv j v hj
  ·simp [World.frozen?, hh]
theorem zQw {ad : Addr} {cs : List CV} (h : vA w ad cs) {j : Nat} {c : CV} (hj : cs[j]? = some c) :
  w.cell? ⟨ad.block, ad.off + j, none⟩ = some (zJ c) ∧ w.frozen? ⟨ad.block, ad.off + j, none⟩ = false := by
 obtain ⟨h1, h2, cur, e, h3, h4⟩ := h
 have hc : cur[j]? = some (zJ c) := by
  rw [← Array.getElem?_toList, h4, z8, List.getElem?_map, hj]
  rfl
 constructor
 ·simp only [World.cell?, h3, h1, Nat.zero_add, Option.isSome_none, Bool.false_eq_true, if_false, hc]
 ·simp [World.frozen?, h3]
theorem Rel.box_at (h : Rel isv w0 E0 P R ea w S tmps) {r : Root} {ad : Addr} (hr : rootAd S ea r = some ad) : ∃ cs, zA S r = some cs ∧ vA w ad cs := by
 cases r with
 | sl d =>
  simp only [rootAd] at hr
  split at hr
  ·rename_i ad' cs heq
   simp only [Option.some.injEq] at hr
   subst hr
   have hd := h.okS d
   rw [heq] at hd
   simp only [okX] at hd
   obtain ⟨_, ad2, h2, h3⟩ := hd
   simp only [Value.pointer.injEq, Option.some.injEq] at h2
   subst h2
   exact ⟨cs, by simp [zA, heq], h3⟩
  ·cases hr
 | ex j =>
  obtain ⟨cs, hcs⟩ := zMd h.eaL hr
  exact ⟨cs, hcs, (h.okE j cs hcs).2 ad hr⟩
theorem Rel.cell_at (h : Rel isv w0 E0 P R ea w S tmps) {r : Root} {p : List Nat} {off : Nat} {ad : Addr} {c : CV} (hp : yV S ea r p = some ad) (hat : at_ S r p off = some c) :
  w.cell? ⟨ad.block, ad.off + off, none⟩ = some (zJ c) ∧ w.frozen? ⟨ad.block, ad.off + off, none⟩ = false := by
 simp only [yV] at hp
 by_cases he : p = []
 ·subst he
  simp only [if_true] at hp
  obtain ⟨cs, hcs, hb⟩ := h.box_at hp
  simp only [at_, hcs, Option.bind_some, y9] at hat
  exact zQw hb hat
 ·rw [if_neg he] at hp
  have hsn := j0 he
  rw [hsn, iW] at hat
  simp only [k8] at hp
  generalize hq : at_ S r p.dropLast (p.getLast?.getD 0) = q at hat hp
  split at hat
  ·rename_i a sz n ds
   have hok := h.at_ok hq
   simp only [okC, okT, if_true] at hok
   simp only at hp
   split at hp
   ·rename_i ad' len cap heq
    simp only [Option.some.injEq] at hp heq
    subst hp; subst heq
    cases hj : ds[off]? with
    | none => simp [hj] at hat
    | some x =>
     simp only [hj, Option.map_some, Option.some.injEq] at hat
     subst hat
     have hlen : len = n := by
      rcases hok.2.2 with ⟨h1, _⟩ | ⟨b, o, cur, e, ⟨_, _, h1, _⟩, _⟩
      ·cases h1
      ·simp only [Value.slice.injEq] at h1; exact h1.2.1
     subst hlen
     have := zSh (by simpa using hok.1) hok.2.2 rfl (j := off) (v := zV x) (by simp [hj])
     exact ⟨this.1, this.2.1⟩
   ·cases hp
  ·cases hat
end
end Go.Proofs.YtlkjnlfddadlmaaGreatDoor.V
namespace Go.Proofs.YtlkjnlfddadlmaaGreatDoor.V
open Go.RowKit
structure QRes (cx : Ctx) (f : Nat) (w0 : World) (E0 : Nat → Prop) (P : Nat → Nat → Prop) (R : Nat → Prop) (ea : List EA) (w : World) (tmps : Array Value) (x : XU) (Su : SU) (w' : World) (S' : SV) (xG : XV) : Prop where
 grow : Grow w w'
 er : erX xG = x
 erS : erS S' = Su
 rel : Rel (zB cx f) w0 E0 P R ea w' S' tmps
 new : New (zB cx f) w0 E0 P R ea w' S' xG
theorem aR {xG : XV} {c : CU} (h : erX xG = .c c) : ∃ cG, xG = .c cG ∧ erC cG = c := by
 cases xG <;> simp [erX, zW] at h
 exact ⟨_, rfl, h⟩
theorem zRf {xG : XV} {cs : List CU} (h : erX xG = .agg cs) : ∃ cG, xG = .agg cG ∧ cG.map erC = cs := by
 cases xG <;> simp [erX, zW, zR] at h
 exact ⟨_, rfl, h⟩
theorem k9 {cG : CV} {x : TU} (h : erC cG = .t x) : ∃ y, cG = .t y ∧ erT y = x := by
 cases cG <;> simp [erC, zI] at h
 exact ⟨_, rfl, h⟩
theorem mY {y : TV} {k : IntKind} {n : Int} (h : erT y = .int k n) : y = .int k n := by
 cases y <;> simp [erT, yA] at h
 obtain ⟨rfl, rfl⟩ := h; rfl
theorem n8 {y : TV} {b : Bool} (h : erT y = .bool b) : y = .bool b := by
 cases y <;> simp [erT, yA] at h
 subst h; rfl
theorem aS {y : TV} {s : List UInt8} (h : erT y = .str s) : y = .str s := by
 cases y <;> simp [erT, yA] at h
 subst h; rfl
theorem i8 {y : TV} (h : erT y = .nili) : y = .nili := by
 cases y <;> simp [erT, yA] at h
 rfl
theorem zRg {y : TV} {a : Unit} (h : erT y = .ifc a) : ∃ v, y = .ifc v := by
 cases y <;> simp [erT, yA] at h
 exact ⟨_, rfl⟩
theorem zHm {y : TV} {a : Unit} {tag sz n : Nat} {cs : List TU} (h : erT y = .sl a tag sz n cs) : ∃ v ds, y = .sl v tag sz n ds ∧ ds.map erT = cs := by
 cases y <;> simp [erT, yA, yO] at h
 obtain ⟨rfl, rfl, rfl, rfl⟩ := h
 exact ⟨_, _, rfl, rfl⟩
theorem eA {cG : CV} (h : erC cG = .nilp) : cG = .nilp := by
 cases cG <;> simp [erC, zI] at h
 rfl
theorem mZ {cG : CV} {a : Unit} {r : Root} {p : List Nat} {off : Nat} (h : erC cG = .ptr a r p off) : ∃ v, cG = .ptr v r p off := by
 cases cG <;> simp [erC, zI] at h
 obtain ⟨rfl, rfl, rfl⟩ := h
 exact ⟨_, rfl⟩
theorem zKp {cG : CV} {a : Unit} {r : Root} {p : List Nat} {i off sz n : Nat} (h : erC cG = .bor a r p i off sz n) : ∃ v, cG = .bor v r p i off sz n := by
 cases cG <;> simp [erC, zI] at h
 obtain ⟨rfl, rfl, rfl, rfl, rfl, rfl⟩ := h
 exact ⟨_, rfl⟩
theorem zM5 {cG : CV} {a : Unit} {cs : List TU} (h : erC cG = .rptr a cs) : ∃ v ds, cG = .rptr v ds ∧ ds.map erT = cs := by
 cases cG <;> simp [erC, zI, yO] at h
 exact ⟨_, _, rfl, h⟩
theorem zVn {cG : CV} {g : Nat} {cs : List CU} (h : erC cG = .fn g cs) : ∃ ds, cG = .fn g ds ∧ ds.map erC = cs := by
 cases cG <;> simp [erC, zI, zR] at h
 obtain ⟨rfl, rfl⟩ := h
 exact ⟨_, rfl, rfl⟩
theorem zWl {cG : CV} {a : Unit} {sz n : Nat} {cs : List CU} (h : erC cG = .lst a sz n cs) : ∃ v ds, cG = .lst v sz n ds ∧ ds.map erC = cs := by
 cases cG <;> simp [erC, zI, zR] at h
 obtain ⟨rfl, rfl, rfl⟩ := h
 exact ⟨_, _, rfl, rfl⟩
section
variable {cx : Ctx} {f : Nat} {w0 : World} {E0 : Nat → Prop} {P : Nat → Nat → Prop} {R : Nat → Prop} {ea : List EA} {w w' : World} {S : SV} {tmps : Array Value} {Pr : Program} {a : Act}
theorem aK {o : Oper} {v : Value} {K : Act → World → Prop} {Q : Exit → Act → World → Prop} (hr : (execOp a.eval o).run Pr w = .ok (.value v) w') (hk : K (a.put o.dst v) w') : o.wp Pr a w K Q := by
 simp only [Oper.wp, Oper.upon, hr]; exact hk
theorem zCt {o : Oper} {K : Act → World → Prop} {Q : Exit → Act → World → Prop} (hr : (execOp a.eval o).run Pr w = .ok .skip w') (hk : K (a.put o.dst undef) w') : o.wp Pr a w K Q := by
 simp only [Oper.wp, Oper.upon, hr]; exact hk
theorem QRes.data (h : Rel (zB cx f) w0 E0 P R ea w S tmps) {y : TV} (hok : okT w P R y) (hb : zU y = []) : QRes cx f w0 E0 P R ea w tmps (.c (.t (erT y))) (V.erS S) w S (.c (.t y)) :=
 ⟨Grow.refl w, by simp [erX, zW, zI, erT], rfl, h, New.plain (by simpa [okX, okC] using hok) (by simpa [zE, zP] using hb) (by simp [zD, zF])⟩
def jA : TU → TV
 | .int k n => .int k n
 | .bool b => .bool b
 | .str s => .str s
 | _ => .nili
def lU : TU → Bool
 | .int _ _ => true
 | .bool _ => true
 | .str _ => true
 | _ => false
theorem zUt {y : TU} (h : lU y = true) : erT (jA y) = y := by cases y <;> simp [lU] at h <;> simp [jA, erT, yA]
theorem zUu (y : TU) : okT w P R (jA y) := by cases y <;> simp [jA, okT]
theorem zR2 (y : TU) : zU (jA y) = [] := by cases y <;> simp [jA, zU]
theorem QRes.scal (h : Rel (zB cx f) w0 E0 P R ea w S tmps) {y : TU} (hy : lU y = true) : QRes cx f w0 E0 P R ea w tmps (.c (.t y)) (V.erS S) w S (.c (.t (jA y))) := by
 have := QRes.data h (zUu (w := w) (P := P) (R := R) y) (zR2 y)
 rwa [zUt hy] at this
theorem zKy {op : BinOp} {k : IntKind} {x y : Int} {z : TU} (h : zA1 op k x y = some z) : lU z = true := by
 cases op <;> simp only [zA1, bvOp] at h <;> (try split at h) <;> simp at h <;> subst h <;> rfl
theorem zEu {op : BinOp} {k : IntKind} {x y : Int} {z : TU} (h : zJo op k x y = some z) : lU z = true := by
 simp only [zJo] at h
 split at h
 ·cases h
 ·cases op <;> simp at h <;> subst h <;> rfl
theorem zLu {op : BinOp} {x y : List UInt8} {z : TU} (h : zEx op x y = some z) : lU z = true := by
 cases op <;> simp only [zEx] at h <;> (try split at h) <;> simp at h <;> subst h <;> rfl
theorem wZ {op : BinOp} {b : Bool} {z : TU} (h : m8 op b = some z) : lU z = true := by
 cases op <;> simp [m8] at h <;> subst h <;> rfl
theorem zPu (t : TypeId) (x y : Operand) {op : BinOp} {k : IntKind} {a b : Int} {z : TU} (h : zA1 op k a b = some z) :
  (do eqGuard op t x y (.int k a) (.int k b); binOp op t (.int k a) (.int k b) : Sem Value).run Pr w = .ok (zV (jA z)) w := by
 simp only [eqGuard_at_int]
 cases op <;> simp only [zA1, bvOp] at h <;> (try split at h) <;> simp only [Option.some.injEq, reduceCtorEq] at h <;>
  subst h <;> simp [binOp, Op.intArith, Op.intDiv, Op.intBits, Op.intCmp, jA, zV, *]
theorem zI9 (t : TypeId) (x y : Operand) {op : BinOp} (ho : op = .shl ∨ op = .shr) {k k' : IntKind} {a b : Int} {z : TU} (h : zJo op k a b = some z) :
  (do eqGuard op t x y (.int k a) (.int k' b); binOp op t (.int k a) (.int k' b) : Sem Value).run Pr w = .ok (zV (jA z)) w := by
 simp only [eqGuard_at_int]
 simp only [zJo] at h
 split at h
 ·cases h
 ·rename_i hb
  rcases ho with rfl | rfl <;> simp only [Option.some.injEq] at h <;> subst h <;> simp [binOp, Op.shift, hb, jA, zV]
theorem zPv (t : TypeId) (x y : Operand) {op : BinOp} {a b : List UInt8} {z : TU} (h : zEx op a b = some z) :
  (do eqGuard op t x y (.string ⟨a.toArray⟩) (.string ⟨b.toArray⟩); binOp op t (.string ⟨a.toArray⟩) (.string ⟨b.toArray⟩) : Sem Value).run Pr w = .ok (zV (jA z)) w := by
 simp only [eqGuard_at_string]
 cases op <;> simp only [zEx] at h <;> (try split at h) <;> simp only [Option.some.injEq, reduceCtorEq] at h <;> subst h
 ·rename_i hl
  have h1 : ((⟨a.toArray⟩ : ByteArray).size : Int) + ((⟨b.toArray⟩ : ByteArray).size : Int) ≤ 9223372036854775807 := by
   have e1 : (⟨a.toArray⟩ : ByteArray).size = a.length := by simp [ByteArray.size]
   have e2 : (⟨b.toArray⟩ : ByteArray).size = b.length := by simp [ByteArray.size]
   rw [e1, e2]
   unfold maxLen at hl
   omega
  have h2 : (⟨a.toArray⟩ ++ ⟨b.toArray⟩ : ByteArray) = ⟨(a ++ b).toArray⟩ := by
   apply ByteArray.ext
   simp
  simp [binOp, Op.stringOp, h1, h2, jA, zV]
 all_goals simp [binOp, Op.stringOp, jA, zV]
end
end Go.Proofs.YtlkjnlfddadlmaaGreatDoor.V
namespace Go.Proofs.YtlkjnlfddadlmaaGreatDoor.V
open Go.RowKit
section
variable {cx : Ctx} {f : Nat} {w0 : World} {E0 : Nat → Prop} {P : Nat → Nat → Prop} {R : Nat → Prop} {ea : List EA} {w w' : World} {S : SV} {tmps : Array Value} {Pr : Program} {a : Act}
def QOk (cx : Ctx) (f : Nat) (w0 : World) (E0 : Nat → Prop) (P : Nat → Nat → Prop) (R : Nat → Prop) (ea : List EA) (w : World) (tmps : Array Value) (Pr : Program) (a : Act) (o : Oper) (x : XU) (Su : SU) : Prop :=
 ∃ w' S' xG, QRes cx f w0 E0 P R ea w tmps x Su w' S' xG ∧ (execOp a.eval o).run Pr w = .ok (.value (zQ xG)) w'
def lI (cx : Ctx) (f : Nat) (w0 : World) (E0 : Nat → Prop) (P : Nat → Nat → Prop) (R : Nat → Prop) (ea : List EA) (w : World) (tmps : Array Value) (Pr : Program) (a : Act) (o : Oper) (x : XU) (Su : SU) : Prop :=
 ∃ S' xG, QRes cx f w0 E0 P R ea w tmps x Su w S' xG ∧ (execOp a.eval o).run Pr w = .ok (.value (zQ xG)) w
def zJ7 (cx : Ctx) (f : Nat) (w0 : World) (E0 : Nat → Prop) (P : Nat → Nat → Prop) (R : Nat → Prop) (ea : List EA) (w : World) (tmps : Array Value) (Pr : Program) (a : Act) (o : Oper) (x : XU) (Su : SU) : Prop :=
 ∃ S' xG, QRes cx f w0 E0 P R ea w tmps x Su w S' xG ∧ ∀ w', (execOp a.eval o).run Pr w' = .ok (.value (zQ xG)) w'
theorem zJ7.ww {o : Oper} {x : XU} {Su : SU} (h : zJ7 cx f w0 E0 P R ea w tmps Pr a o x Su) : lI cx f w0 E0 P R ea w tmps Pr a o x Su :=
 let ⟨S', xG, h1, h2⟩ := h; ⟨S', xG, h1, h2 w⟩
theorem lI.ok {o : Oper} {x : XU} {Su : SU} (h : lI cx f w0 E0 P R ea w tmps Pr a o x Su) : QOk cx f w0 E0 P R ea w tmps Pr a o x Su :=
 let ⟨S', xG, h1, h2⟩ := h; ⟨w, S', xG, h1, h2⟩
theorem Opv.keep (h : Rel (zB cx f) w0 E0 P R ea w S tmps) {o : Operand} {x : XU} {xG : XV} (hx : Opv cx f w0 E0 P R ea w S a o x xG) : QRes cx f w0 E0 P R ea w tmps x (V.clr cx f (V.erS S) o) w (V.clr cx f S o) xG :=
 ⟨Grow.refl w, hx.er, gT o, h.clr o, hx.new⟩
theorem zIb (h : Rel (zB cx f) w0 E0 P R ea w S tmps) (ha : a.tmps = tmps) {o : Oper} {x : Operand} (ho : o.op = .move x) {y : XU} (hy : opv cx f (V.erS S) o.type x = some y) :
  zJ7 cx f w0 E0 P R ea w tmps Pr a o y (V.clr cx f (V.erS S) x) := by
 obtain ⟨xG, hx⟩ := h.opv ha hy
 exact ⟨_, xG, hx.keep h, fun w' => by simp [execOp, ho, hx.val]⟩
theorem zNm (h : Rel (zB cx f) w0 E0 P R ea w S tmps) (ha : a.tmps = tmps) {o : Oper} {x : Operand} (ho : o.op = .move x) {y : XU} (hy : opv cx f (V.erS S) o.type x = some y) :
  lI cx f w0 E0 P R ea w tmps Pr a o y (V.clr cx f (V.erS S) x) := (zIb h ha ho hy).ww
theorem pJ (h : Rel (zB cx f) w0 E0 P R ea w S tmps) (ha : a.tmps = tmps) {t : Nat} {o : Operand} {n : Int} (hy : dE (opv cx f (V.erS S) t o) = some n) : ∃ k, a.eval o = .int k n := by
 cases ho : opv cx f (V.erS S) t o with
 | none => simp [ho, dE] at hy
 | some x =>
  obtain ⟨xG, hx⟩ := h.opv ha ho
  rw [ho] at hy
  unfold dE at hy
  split at hy
  ·rename_i k m heq
   simp only [Option.some.injEq] at hy heq
   subst hy; subst heq
   obtain ⟨cG, rfl, hc⟩ := aR hx.er
   obtain ⟨y, rfl, hy⟩ := k9 hc
   have := mY hy
   subst this
   exact ⟨k, by simpa [zQ, zJ, zV] using hx.val⟩
  ·cases hy
theorem zBu (h : Rel (zB cx f) w0 E0 P R ea w S tmps) (ha : a.tmps = tmps) {t : Nat} {o : Operand} {b : Bool} (hy : v1 (opv cx f (V.erS S) t o) = some b) : a.eval o = .bool b := by
 cases ho : opv cx f (V.erS S) t o with
 | none => simp [ho, v1] at hy
 | some x =>
  obtain ⟨xG, hx⟩ := h.opv ha ho
  rw [ho] at hy
  unfold v1 at hy
  split at hy
  ·rename_i m heq
   simp only [Option.some.injEq] at hy heq
   subst hy; subst heq
   obtain ⟨cG, rfl, hc⟩ := aR hx.er
   obtain ⟨y, rfl, hy⟩ := k9 hc
   have := n8 hy
   subst this
   simpa [zQ, zJ, zV] using hx.val
  ·cases hy
variable {call : zX}
theorem zN2 (h : Rel (zB cx f) w0 E0 P R ea w S tmps) (ha : a.tmps = tmps) {o : Oper} {c x y : Operand} (ho : o.op = .pick c x y) {z : XU} {Su : SU}
  (hq : qval cx f call (V.erS S) o.type (.pick c x y) = some (z, Su)) : lI cx f w0 E0 P R ea w tmps Pr a o z Su := by
 simp only [qval] at hq
 split at hq
 ·rename_i hb
  have hc := zBu h ha hb
  cases hx : opv cx f (V.erS S) o.type x with
  | none => simp [hx] at hq
  | some x' =>
   simp only [hx, Option.map_some, Option.some.injEq, Prod.mk.injEq] at hq
   obtain ⟨rfl, rfl⟩ := hq
   obtain ⟨xG, hxG⟩ := h.opv ha hx
   exact ⟨_, xG, hxG.keep h, by simp [execOp, ho, hc, hxG.val, asBool]⟩
 ·rename_i hb
  have hc := zBu h ha hb
  cases hx : opv cx f (V.erS S) o.type y with
  | none => simp [hx] at hq
  | some x' =>
   simp only [hx, Option.map_some, Option.some.injEq, Prod.mk.injEq] at hq
   obtain ⟨rfl, rfl⟩ := hq
   obtain ⟨xG, hxG⟩ := h.opv ha hx
   exact ⟨_, xG, hxG.keep h, by simp [execOp, ho, hc, hxG.val, asBool]⟩
 ·cases hq
theorem kA (h : Rel (zB cx f) w0 E0 P R ea w S tmps) (ha : a.tmps = tmps) {t : Nat} {o : Operand} {c : CU} (hy : opv cx f (V.erS S) t o = some (.c c)) :
  ∃ cG, erC cG = c ∧ a.eval o = zJ cG ∧ okC w P R S ea cG ∧ ∀ d', Root.sl d' ∈ zF cG → zB cx f d' = true := by
 obtain ⟨xG, hx⟩ := h.opv ha hy
 obtain ⟨cG, rfl, hc⟩ := aR hx.er
 exact ⟨cG, hc, by simpa [zQ] using hx.val, by simpa [okX] using hx.ok, fun d' hd' => hx.new.refs d' (by simpa [zD] using hd')⟩
theorem xV (hty : jB Pr cx.ty) {t k : Nat} (hk0 : 0 < k) (hk : jC cx t = k) : ∃ d, Pr.underlying t = some d ∧ j5 Pr d k = true := by
 simp only [jC] at hk
 split at hk
 ·rename_i hok
  obtain ⟨i, d, z, hf⟩ := hty.facts hok
  exact ⟨d, hf.und, hk ▸ hf.kind⟩
 ·omega
theorem gM (t : TypeId) (x y : Operand) {op : BinOp} {va vb : Value} {same : Bool} {z : TU} (hg : eqGuard op t x y va vb = pure ())
  (h1 : binOp .eql t va vb = (do pure (.bool (← Op.equal t va vb)))) (h2 : binOp .neq t va vb = (do pure (.bool (!(← Op.equal t va vb)))))
  (he : (Op.equal t va vb).run Pr w = .ok same w) (h : m8 op same = some z) :
  (do eqGuard op t x y va vb; binOp op t va vb : Sem Value).run Pr w = .ok (zV (jA z)) w := by
 rw [hg]
 cases op <;> simp only [m8, Option.some.injEq, reduceCtorEq] at h
 ·subst h; simp [h1, he, jA, zV]
 ·subst h; simp [h2, he, jA, zV]
theorem zO6 (d t : Nat) (p q : Bool) (hd : Pr.underlying t = some .bool) : (Op.equalIn (d + 1) t (.bool p) (.bool q)).run Pr w = .ok (p == q) w := by
 simp [Op.equalIn, run_underlying hd]
theorem zRe (d t e : Nat) (p q : Option Addr) (hd : Pr.underlying t = some (.pointer e)) (hn : p = none ∨ q = none) : (Op.equalIn (d + 1) t (.pointer p) (.pointer q)).run Pr w = .ok (p.isNone && q.isNone) w := by
 rcases hn with rfl | rfl
 ·simp [Op.equalIn, run_underlying hd]
 ·cases p <;> simp [Op.equalIn, run_underlying hd]
theorem zO7 (d t : Nat) (e : Array (String × TypeId)) (hd : Pr.underlying t = some (.interface e)) : (Op.equalIn (d + 1) t .nilIface .nilIface).run Pr w = .ok true w := by
 simp [Op.equalIn, run_underlying hd]
theorem zHk (d t : Nat) (e : Array (String × TypeId)) (t' : TypeId) (v : Value) (hd : Pr.underlying t = some (.interface e)) : (Op.equalIn (d + 1) t .nilIface (.iface t' v)).run Pr w = .ok false w := by
 simp [Op.equalIn, run_underlying hd]
theorem zHl (d t : Nat) (e : Array (String × TypeId)) (t' : TypeId) (v : Value) (hd : Pr.underlying t = some (.interface e)) : (Op.equalIn (d + 1) t (.iface t' v) .nilIface).run Pr w = .ok false w := by
 simp [Op.equalIn, run_underlying hd]
theorem zCd (t : TypeId) (p q : Bool) (hd : Pr.underlying t = some .bool) : (Op.equal t (.bool p) (.bool q)).run Pr w = .ok (p == q) w := zO6 9999 t p q hd
theorem dS (t e : TypeId) (p q : Option Addr) (hd : Pr.underlying t = some (.pointer e)) (hn : p = none ∨ q = none) : (Op.equal t (.pointer p) (.pointer q)).run Pr w = .ok (p.isNone && q.isNone) w := zRe 9999 t e p q hd hn
theorem zCe (t : TypeId) (e : Array (String × TypeId)) (hd : Pr.underlying t = some (.interface e)) : (Op.equal t .nilIface .nilIface).run Pr w = .ok true w := zO7 9999 t e hd
theorem cR (t : TypeId) (e : Array (String × TypeId)) (t' : TypeId) (v : Value) (hd : Pr.underlying t = some (.interface e)) : (Op.equal t .nilIface (.iface t' v)).run Pr w = .ok false w := zHk 9999 t e t' v hd
theorem cS (t : TypeId) (e : Array (String × TypeId)) (t' : TypeId) (v : Value) (hd : Pr.underlying t = some (.interface e)) : (Op.equal t (.iface t' v) .nilIface).run Pr w = .ok false w := zHl 9999 t e t' v hd
theorem zQv (hty : jB Pr cx.ty) (h : Rel (zB cx f) w0 E0 P R ea w S tmps) (ha : a.tmps = tmps) {o : Oper} {op : BinOp} {xt yt : Nat} {x y : Operand} (ho : o.op = .binOp op xt x y yt) {z : XU} {Su : SU}
  (hq : qval cx f call (V.erS S) o.type (.binOp op xt x y yt) = some (z, Su)) : lI cx f w0 E0 P R ea w tmps Pr a o z Su := by
 simp only [qval] at hq
 split at hq
 ·rename_i A B hA hB
  obtain ⟨aG, haG, hav, haok, _⟩ := kA h ha hA
  obtain ⟨bG, hbG, hbv, hbok, _⟩ := kA h ha hB
  cases hz : rG (jC cx xt) (wF x || wF y) op A B with
  | none => simp [hz] at hq
  | some z' =>
   simp only [hz, Option.map_some, Option.some.injEq, Prod.mk.injEq] at hq
   obtain ⟨rfl, rfl⟩ := hq
   have fin : lU z' = true → (do eqGuard op xt x y (a.eval x) (a.eval y); binOp op xt (a.eval x) (a.eval y) : Sem Value).run Pr w = .ok (zV (jA z')) w → lI cx f w0 E0 P R ea w tmps Pr a o (.c (.t z')) (V.erS S) := by
    intro hs hr
    refine ⟨S, _, QRes.scal h hs, ?_⟩
    have : (execOp a.eval o).run Pr w = ((do eqGuard op xt x y (a.eval x) (a.eval y); binOp op xt (a.eval x) (a.eval y) : Sem Value) >>= fun v => pure (Next.value v)).run Pr w := by simp [execOp, ho]
    rw [this, Sem.run_bind, hr]
    simp [zQ, zJ]
   unfold rG at hz
   split at hz
   ·obtain ⟨u, rfl, hu⟩ := k9 haG
    obtain ⟨v, rfl, hv⟩ := k9 hbG
    have := mY hu; subst this
    have := mY hv; subst this
    simp only [zJ, zV] at hav hbv
    rw [hav, hbv] at fin
    split at hz
    ·exact fin (zEu hz) (zI9 xt x y (.inl rfl) hz)
    ·exact fin (zEu hz) (zI9 xt x y (.inr rfl) hz)
    ·split at hz
     ·rename_i hk
      subst hk
      exact fin (zKy hz) (zPu xt x y hz)
     ·cases hz
   ·obtain ⟨u, rfl, hu⟩ := k9 haG
    obtain ⟨v, rfl, hv⟩ := k9 hbG
    have := aS hu; subst this
    have := aS hv; subst this
    simp only [zJ, zV] at hav hbv
    rw [hav, hbv] at fin
    exact fin (zLu hz) (zPv xt x y hz)
   ·obtain ⟨u, rfl, hu⟩ := k9 haG
    obtain ⟨v, rfl, hv⟩ := k9 hbG
    have := n8 hu; subst this
    have := n8 hv; subst this
    simp only [zJ, zV] at hav hbv
    rw [hav, hbv] at fin
    split at hz
    ·rename_i hk
     obtain ⟨d, hd, hkd⟩ := xV hty (t := xt) (by omega) hk
     have hdb : d = .bool := by cases d <;> simp [j5] at hkd <;> rfl
     subst hdb
     exact fin (wZ hz) (gM xt x y (by cases op <;> rfl) (by simp [binOp]) (by simp [binOp]) (zCd xt _ _ hd) hz)
    ·cases hz
   ·have h1 := eA haG; subst h1
    have h2 := eA hbG; subst h2
    simp only [zJ] at hav hbv
    rw [hav, hbv] at fin
    split at hz
    ·rename_i hk
     obtain ⟨d, hd, hkd⟩ := xV hty (t := xt) (by omega) hk
     obtain ⟨e, rfl⟩ : ∃ e, d = .pointer e := by cases d <;> simp [j5] at hkd <;> exact ⟨_, rfl⟩
     exact fin (wZ hz) (gM xt x y (by cases op <;> rfl) (by simp [binOp]) (by simp [binOp]) (dS xt e _ _ hd (.inl rfl)) hz)
    ·cases hz
   ·have h1 := eA haG; subst h1
    obtain ⟨v, rfl⟩ := mZ hbG
    simp only [okC, vB] at hbok
    obtain ⟨ad, _, rfl⟩ := hbok
    simp only [zJ] at hav hbv
    rw [hav, hbv] at fin
    split at hz
    ·rename_i hk
     obtain ⟨d, hd, hkd⟩ := xV hty (t := xt) (by omega) hk
     obtain ⟨e, rfl⟩ : ∃ e, d = .pointer e := by cases d <;> simp [j5] at hkd <;> exact ⟨_, rfl⟩
     exact fin (wZ hz) (gM xt x y (by cases op <;> rfl) (by simp [binOp]) (by simp [binOp]) (dS xt e _ _ hd (.inl rfl)) hz)
    ·cases hz
   ·have h1 := eA hbG; subst h1
    obtain ⟨v, rfl⟩ := mZ haG
    simp only [okC, vB] at haok
    obtain ⟨ad, _, rfl⟩ := haok
    simp only [zJ] at hav hbv
    rw [hav, hbv] at fin
    split at hz
    ·rename_i hk
     obtain ⟨d, hd, hkd⟩ := xV hty (t := xt) (by omega) hk
     obtain ⟨e, rfl⟩ : ∃ e, d = .pointer e := by cases d <;> simp [j5] at hkd <;> exact ⟨_, rfl⟩
     exact fin (wZ hz) (gM xt x y (by cases op <;> rfl) (by simp [binOp]) (by simp [binOp]) (dS xt e _ _ hd (.inr rfl)) hz)
    ·cases hz
   ·obtain ⟨u, rfl, hu⟩ := k9 haG
    obtain ⟨v, rfl, hv⟩ := k9 hbG
    have := i8 hu; subst this
    have := i8 hv; subst this
    simp only [zJ, zV] at hav hbv
    rw [hav, hbv] at fin
    split at hz
    ·rename_i hk
     simp only [Bool.and_eq_true, decide_eq_true_eq, Bool.or_eq_true] at hk
     obtain ⟨hk, hc⟩ := hk
     obtain ⟨d, hd, hkd⟩ := xV hty (t := xt) (by omega) hk
     obtain ⟨e, rfl⟩ : ∃ e, d = .interface e := by cases d <;> simp [j5] at hkd <;> exact ⟨_, rfl⟩
     refine fin (wZ hz) (gM xt x y ?_ (by simp [binOp]) (by simp [binOp]) (zCe xt e hd) hz)
     rcases hc with hc | hc
     ·cases x <;> simp [wF] at hc; exact eqGuard_nil_constL _ _ _ _
     ·cases y <;> simp [wF] at hc; exact eqGuard_nil_constR _ _ _ _
    ·cases hz
   ·obtain ⟨u, rfl, hu⟩ := k9 haG
    obtain ⟨v, rfl, hv⟩ := k9 hbG
    have := i8 hu; subst this
    obtain ⟨b, rfl⟩ := zRg hv
    simp only [okC, okT] at hbok
    obtain ⟨t', v', rfl⟩ := hbok
    simp only [zJ, zV] at hav hbv
    rw [hav, hbv] at fin
    split at hz
    ·rename_i hk
     obtain ⟨d, hd, hkd⟩ := xV hty (t := xt) (by omega) hk
     obtain ⟨e, rfl⟩ : ∃ e, d = .interface e := by cases d <;> simp [j5] at hkd <;> exact ⟨_, rfl⟩
     exact fin (wZ hz) (gM xt x y (by cases op <;> rfl) (by simp [binOp]) (by simp [binOp]) (cR xt e t' v' hd) hz)
    ·cases hz
   ·obtain ⟨u, rfl, hu⟩ := k9 haG
    obtain ⟨v, rfl, hv⟩ := k9 hbG
    have := i8 hv; subst this
    obtain ⟨b, rfl⟩ := zRg hu
    simp only [okC, okT] at haok
    obtain ⟨t', v', rfl⟩ := haok
    simp only [zJ, zV] at hav hbv
    rw [hav, hbv] at fin
    split at hz
    ·rename_i hk
     obtain ⟨d, hd, hkd⟩ := xV hty (t := xt) (by omega) hk
     obtain ⟨e, rfl⟩ : ∃ e, d = .interface e := by cases d <;> simp [j5] at hkd <;> exact ⟨_, rfl⟩
     exact fin (wZ hz) (gM xt x y (by cases op <;> rfl) (by simp [binOp]) (by simp [binOp]) (cS xt e t' v' hd) hz)
    ·cases hz
   ·cases hz
 ·cases hq
end
end Go.Proofs.YtlkjnlfddadlmaaGreatDoor.V
namespace Go.Proofs.YtlkjnlfddadlmaaGreatDoor.V
open Go.RowKit
section
variable {cx : Ctx} {f : Nat} {w0 : World} {E0 : Nat → Prop} {P : Nat → Nat → Prop} {R : Nat → Prop} {ea : List EA} {w w' : World} {S : SV} {tmps : Array Value} {Pr : Program} {a : Act} {call : zX}
theorem zV1 (h : Rel (zB cx f) w0 E0 P R ea w S tmps) (ha : a.tmps = tmps) {o : Oper} {op : UnOp} {xt : Nat} {x : Operand} (ho : o.op = .unOp op xt x) {z : XU} {Su : SU}
  (hq : qval cx f call (V.erS S) o.type (.unOp op xt x) = some (z, Su)) : lI cx f w0 E0 P R ea w tmps Pr a o z Su := by
 simp only [qval] at hq
 split at hq
 ·rename_i A hA
  obtain ⟨aG, haG, hav, haok, _⟩ := kA h ha hA
  cases hz : unV op A with
  | none => simp [hz] at hq
  | some z' =>
   simp only [hz, Option.map_some, Option.some.injEq, Prod.mk.injEq] at hq
   obtain ⟨rfl, rfl⟩ := hq
   unfold unV at hz
   split at hz
   ·obtain ⟨u, rfl, hu⟩ := k9 haG
    have := n8 hu; subst this
    simp only [zJ, zV] at hav
    split at hz
    ·rename_i hop; subst hop
     simp only [Option.some.injEq] at hz; subst hz
     exact ⟨S, _, QRes.scal h rfl, by simp [execOp, ho, hav, Op.unary, zQ, zJ, jA, zV]⟩
    ·cases hz
   ·obtain ⟨u, rfl, hu⟩ := k9 haG
    have := mY hu; subst this
    simp only [zJ, zV] at hav
    split at hz
    ·simp only [Option.some.injEq] at hz; subst hz
     exact ⟨S, _, QRes.scal h rfl, by simp [execOp, ho, hav, Op.unary, Op.intArith, zQ, zJ, jA, zV]⟩
    ·cases hz
   ·cases hz
 ·cases hq
theorem QRes.ref (h : Rel (zB cx f) w0 E0 P R ea w S tmps) {c : CV} (hok : okC w P R S ea c) (hb : zP c = []) (hr : ∀ d', Root.sl d' ∈ zF c → zB cx f d' = true) :
  QRes cx f w0 E0 P R ea w tmps (.c (erC c)) (V.erS S) w S (.c c) :=
 ⟨Grow.refl w, by simp [erX, zW, erC], rfl, h,
  ⟨by simpa [okX] using hok, fun d' hd' => hr d' (by simpa [zD] using hd'), by simp [zE, hb], fun r b hb' => by simp [zE, hb] at hb', fun b hb' => by simp [zE, hb] at hb', fun b hb' => by simp [zE, hb] at hb', fun b hb' => by simp [zE, hb] at hb'⟩⟩
theorem tJ (h : Rel (zB cx f) w0 E0 P R ea w S tmps) (ha : a.tmps = tmps) {o : Oper} {x : Operand} (ho : o.op = .nilCheck x) {z : XU} {Su : SU}
  (hq : qval cx f call (V.erS S) o.type (.nilCheck x) = some (z, Su)) : zJ7 cx f w0 E0 P R ea w tmps Pr a o z Su := by
 simp only [qval] at hq
 split at hq
 ·next v r p off hx =>
  simp only [Option.some.injEq, Prod.mk.injEq] at hq
  obtain ⟨rfl, rfl⟩ := hq
  obtain ⟨cG, h1, h2, h3, h4⟩ := kA h ha hx
  obtain ⟨v', rfl⟩ := mZ h1
  have hv : ∃ ad, a.eval x = .pointer (some ad) := by
   simp only [okC] at h3
   obtain ⟨ad, _, rfl⟩ := h3
   exact ⟨_, by rw [h2]; rfl⟩
  obtain ⟨ad, hv⟩ := hv
  refine ⟨S, .c (.ptr v' r p off), .ref h h3 (by simp [zP]) h4, ?_⟩
  rw [show zQ (.c (.ptr v' r p off)) = a.eval x from h2.symm]
  intro w'; simp [execOp, ho, hv]
 ·next v cs hx =>
  simp only [Option.some.injEq, Prod.mk.injEq] at hq
  obtain ⟨rfl, rfl⟩ := hq
  obtain ⟨cG, h1, h2, h3, h4⟩ := kA h ha hx
  obtain ⟨v', ds, rfl, rfl⟩ := zM5 h1
  have hv : ∃ ad, a.eval x = .pointer (some ad) := by
   simp only [okC] at h3
   obtain ⟨_, _, ad, rfl, _⟩ := h3
   exact ⟨_, by rw [h2]; rfl⟩
  obtain ⟨ad, hv⟩ := hv
  refine ⟨S, .c (.rptr v' ds), ?_, ?_⟩
  ·have := QRes.ref h h3 (by simp [zP]) h4
   simpa only [erC, zI, yO] using this
  ·rw [show zQ (.c (.rptr v' ds)) = a.eval x from h2.symm]
   intro w'; simp [execOp, ho, hv]
 ·cases hq
theorem oZ (h : Rel (zB cx f) w0 E0 P R ea w S tmps) (ha : a.tmps = tmps) {o : Oper} {x : Operand} (ho : o.op = .nilCheck x) {z : XU} {Su : SU}
  (hq : qval cx f call (V.erS S) o.type (.nilCheck x) = some (z, Su)) : lI cx f w0 E0 P R ea w tmps Pr a o z Su := (tJ h ha ho hq).ww
theorem u9 {n : Nat} {cs : List TV} (h : xP w P R cs) : xP w P R (cs.drop n) := yJ.2 fun x hx => yJ.1 h x (List.mem_of_mem_drop hx)
theorem fU {n : Nat} {cs : List TV} (h : xP w P R cs) : xP w P R (cs.take n) := yJ.2 fun x hx => yJ.1 h x (List.mem_of_mem_take hx)
theorem cV {g n : Nat} {cs : List TV} (h : qZ g cs) : qZ g (cs.drop n) := xU.2 fun x hx => xU.1 h x (List.mem_of_mem_drop hx)
theorem zEv {g n : Nat} {cs : List TV} (h : qZ g cs) : qZ g (cs.take n) := xU.2 fun x hx => xU.1 h x (List.mem_of_mem_take hx)
theorem zXi {g g' : Nat} (hg : g' ≤ g) : ∀ {x : TV}, shT g x → shT g' x := by
 have key : (∀ x : TV, shT g x → shT g' x) ∧ True := by
  refine ⟨?_, trivial⟩
  intro x
  exact T.rec (motive_1 := fun x => shT g x → shT g' x) (motive_2 := fun xs => qZ g xs → qZ g' xs)
   (fun _ _ _ => by simp [shT]) (fun _ _ => by simp [shT]) (fun _ _ => by simp [shT])
   (fun a tag sz n cs ih h => by simp only [shT] at h ⊢; exact ⟨h.1, Nat.le_trans hg h.2.1, ih h.2.2⟩)
   (fun _ _ => by simp [shT]) (fun _ => by simp [shT]) (fun _ _ => by simp [shT])
   (fun _ => by simp [qZ]) (fun x xs ihx ihxs h => by simp only [qZ] at h ⊢; exact ⟨ihx h.1, ihxs h.2⟩) x
 exact fun {x} => key.1 x
theorem zOd {g g' : Nat} (hg : g' ≤ g) {xs : List TV} (h : qZ g xs) : qZ g' xs := xU.2 fun x hx => zXi hg (xU.1 h x hx)
theorem lQ {b o : Nat} {vs : List Value} (h : vM w b o vs) (n : Nat) : vM w b (o + n) (vs.drop n) := by
 intro j v hj
 rw [List.getElem?_drop] at hj
 have := h (n + j) v hj
 rwa [show o + (n + j) = o + n + j by omega] at this
theorem sV {b o : Nat} {vs : List Value} (h : vM w b o vs) (n : Nat) : vM w b o (vs.take n) := by
 intro j v hj
 rw [List.getElem?_take] at hj
 split at hj
 ·exact h j v hj
 ·cases hj
theorem d9 {x : TV} {g : Nat} (h : shT g x) : zU x = [] := by
 cases x with
 | sl a tag sz n cs => simp only [shT] at h; simp [zU, show tag ≠ 0 by omega]
 | _ => simp [zU]
theorem uG {ad : Addr} (h : ad.spot = none) (n : Nat) : ad.add n = ⟨ad.block, ad.off + n, none⟩ := by
 obtain ⟨b, o, s⟩ := ad
 simp only at h
 subst h
 exact Addr.add_lit b o n
theorem zT0 {c : CV} {n : Nat} {z : CU} (hok : okC w P R S ea c) (hz : pS (erC c) n = some z) :
  ∃ c' ad, erC c' = z ∧ zJ c = .pointer (some ad) ∧ zJ c' = .pointer (some (ad.add n)) ∧ okC w P R S ea c' ∧ zP c' = [] ∧ zF c' = zF c := by
 cases c with
 | ptr v r p off =>
  simp only [erC, zI, pS, Option.some.injEq] at hz
  subst hz
  simp only [okC, vB] at hok
  obtain ⟨ad, h1, rfl⟩ := hok
  refine ⟨.ptr (.pointer (some ⟨ad.block, ad.off + (off + n), none⟩)) r p (off + n), ⟨ad.block, ad.off + off, none⟩, by simp [erC, zI, er0], by simp [zJ], ?_, ?_, by simp [zP], by simp [zF]⟩
  ·simp [zJ, Addr.add_lit, Nat.add_assoc]
  ·simp only [okC, vB]; exact ⟨ad, h1, rfl⟩
 | rptr v cs =>
  simp only [erC, zI, yO, pS, List.length_map] at hz
  split at hz
  ·rename_i hn
   simp only [Option.some.injEq] at hz
   subst hz
   simp only [okC] at hok
   obtain ⟨h1, h2, ad, rfl, h4, h5⟩ := hok
   refine ⟨.rptr (.pointer (some (ad.add n))) (cs.drop n), ad, by simp [erC, zI, yO, er0, List.map_drop], by simp [zJ], by simp [zJ], ?_, by simp [zP], by simp [zF]⟩
   simp only [okC]
   refine ⟨u9 h1, cV h2, ad.add n, rfl, by rw [uG h4], ?_⟩
   rcases h5 with rfl | ⟨h5, h6⟩
   ·exact .inl (by simp)
   ·refine .inr ?_
    rw [uG h4]
    exact ⟨h5, by rw [List.map_drop]; exact lQ h6 n⟩
  ·cases hz
 | _ => simp [erC, zI, pS] at hz
theorem pT (hty : jB Pr cx.ty) (h : Rel (zB cx f) w0 E0 P R ea w S tmps) (ha : a.tmps = tmps) {o : Oper} {e i : Nat} {x : Operand} (ho : o.op = .fieldAddr e x i) {z : XU} {Su : SU}
  (hq : qval cx f call (V.erS S) o.type (.fieldAddr e x i) = some (z, Su)) : zJ7 cx f w0 E0 P R ea w tmps Pr a o z Su := by
 simp only [qval] at hq
 split at hq
 ·rename_i off ft y hfs hy
  split at hq
  ·rename_i hok
   obtain ⟨aG, haG, hav, haok, har⟩ := kA h ha hy
   subst haG
   cases hz : pS (erC aG) off with
   | none => simp [hz] at hq
   | some z' =>
    simp only [hz, Option.map_some, Option.some.injEq, Prod.mk.injEq] at hq
    obtain ⟨rfl, rfl⟩ := hq
    obtain ⟨c', ad, h1, h2, h3, h4, h5, h6⟩ := zT0 haok hz
    obtain ⟨ti, d, zz, hf⟩ := hty.facts hok.1
    obtain ⟨fs, fd, rfl, hfd, hfo, hft⟩ := hf.field hfs
    obtain ⟨ti2, d2, zz2, hf2⟩ := hty.facts hok.2.1
    subst h1
    refine ⟨S, _, QRes.ref h h4 h5 (fun d' hd' => har d' (h6 ▸ hd')), ?_⟩
    have hsz : ∀ w', (sizeOf fd.type).run Pr w' = .ok (cx.ty ft).sz w' := by intro w'; rw [hft]; simp [sizeOf, typeInfo, hf2.info, hf2.size]
    have hne : (cx.ty ft).sz ≠ 0 := by omega
    intro w'
    simp [execOp, ho, hav, h2, Instr.fieldAt, run_underlying hf.und, hfd, Instr.sureAddr, fieldPlace, hsz, hne, hfo, zQ, h3]
  ·cases hq
 ·cases hq
theorem s5 (hty : jB Pr cx.ty) (h : Rel (zB cx f) w0 E0 P R ea w S tmps) (ha : a.tmps = tmps) {o : Oper} {e i : Nat} {x : Operand} (ho : o.op = .fieldAddr e x i) {z : XU} {Su : SU}
  (hq : qval cx f call (V.erS S) o.type (.fieldAddr e x i) = some (z, Su)) : lI cx f w0 E0 P R ea w tmps Pr a o z Su := (pT hty h ha ho hq).ww
theorem zHy (hty : jB Pr cx.ty) (h : Rel (zB cx f) w0 E0 P R ea w S tmps) (ha : a.tmps = tmps) {o : Oper} {e : Nat} {x i : Operand} (ho : o.op = .index e x i) {z : XU} {Su : SU}
  (hq : qval cx f call (V.erS S) o.type (.index e x i) = some (z, Su)) : lI cx f w0 E0 P R ea w tmps Pr a o z Su := by
 simp only [qval] at hq
 split at hq
 ·rename_i s k hs hk
  split at hq
  ·rename_i hlt
   obtain ⟨hk3, hlt⟩ := hlt
   have hu : Pr.underlying e = some .string := by
    obtain ⟨d, hd, hkd⟩ := xV hty (t := e) (by omega) hk3
    rw [hd]
    cases d <;> simp [j5] at hkd <;> rfl
   simp only [Option.some.injEq, Prod.mk.injEq] at hq
   obtain ⟨rfl, rfl⟩ := hq
   obtain ⟨aG, haG, hav, _, _⟩ := kA h ha hs
   obtain ⟨u, rfl, hu'⟩ := k9 haG
   have := aS hu'; subst this
   simp only [zJ, zV] at hav
   obtain ⟨kk, hkv⟩ := pJ h ha hk
   refine ⟨S, _, QRes.scal h rfl, ?_⟩
   have h1 : k.toNat < s.length := by omega
   have h2 : (⟨s.toArray⟩ : ByteArray)[k.toNat]? = some s[k.toNat] := by
    have : k.toNat < (⟨s.toArray⟩ : ByteArray).size := by simpa [ByteArray.size] using h1
    rw [getElem?_pos (⟨s.toArray⟩ : ByteArray) k.toNat this]
    rfl
   simp [execOp, ho, hav, hkv, Instr.index, asIntOf, run_underlying hu, hlt.1, h2, zQ, zJ, zDc, jA, zV, List.getD, h1]
  ·cases hq
 ·cases hq
end
end Go.Proofs.YtlkjnlfddadlmaaGreatDoor.V
namespace Go.Proofs.YtlkjnlfddadlmaaGreatDoor.V
open Go.RowKit
section
variable {cx : Ctx} {f : Nat} {w0 : World} {E0 : Nat → Prop} {P : Nat → Nat → Prop} {R : Nat → Prop} {ea : List EA} {w w' : World} {S : SV} {tmps : Array Value} {Pr : Program} {a : Act} {call : zX}
theorem pW (hty : jB Pr cx.ty) (h : Rel (zB cx f) w0 E0 P R ea w S tmps) (ha : a.tmps = tmps) {o : Oper} {e : Nat} {x i : Operand} (ho : o.op = .indexAddr e x i) {z : XU} {Su : SU}
  (hq : qval cx f call (V.erS S) o.type (.indexAddr e x i) = some (z, Su)) : zJ7 cx f w0 E0 P R ea w tmps Pr a o z Su := by
 simp only [qval] at hq
 split at hq
 ·-- a list that is referred to
  rename_i el _ r p j off sz n k hel hx hk
  split at hq
  ·rename_i hc
   obtain ⟨hse, h0, hlt, hsz, hok⟩ := hc
   obtain ⟨ti, d, zz, hf⟩ := hty.facts hse
   have hd := hf.slice hel
   subst hd
   simp only [Option.some.injEq, Prod.mk.injEq] at hq
   obtain ⟨rfl, rfl⟩ := hq
   obtain ⟨aG, haG, hav, haok, har⟩ := kA h ha hx
   obtain ⟨v, rfl⟩ := zKp haG
   obtain ⟨kk, hkv⟩ := pJ h ha hk
   obtain ⟨ti2, d2, zz2, hf2⟩ := hty.facts hok
   simp only [okC, wD] at haok
   obtain ⟨b, m, ds, hat, hl, hh⟩ := haok
   rcases hh with ⟨_, _, hn⟩ | ⟨ad, cap, rfl, hw⟩
   ·omega
   ·obtain ⟨ad2, cap2, rfl, hc2, hs2, hb2, hor⟩ := hw
    have hcap : cap2 ≠ 0 := by omega
    obtain ⟨ho2, _⟩ := hor.resolve_left hcap
    refine ⟨S, .c (.ptr (.pointer (some ⟨ad.block, ad.off + (off + k.toNat * sz), none⟩)) r (p ++ [j]) (off + k.toNat * sz)), ?_, ?_⟩
    ·refine QRes.ref (c := .ptr (.pointer (some ⟨ad.block, ad.off + (off + k.toNat * sz), none⟩)) r (p ++ [j]) (off + k.toNat * sz)) h ?_ (by simp [zP]) (fun d' hd' => har d' (by simpa [zF] using hd'))
     simp only [okC, vB]
     refine ⟨ad, ?_, rfl⟩
     simp [yV, k8, hat]
    ·have hszr : ∀ w', (sizeOf el).run Pr w' = .ok sz w' := by intro w'; rw [hsz]; simp [sizeOf, typeInfo, hf2.info, hf2.size]
     have hadd : ad2.add (k.toNat * sz) = ⟨ad.block, ad.off + (off + k.toNat * sz), none⟩ := by
      rw [uG hs2, hb2, ho2, Nat.add_assoc]
     simp only [zJ] at hav
     intro w'
     simp [execOp, ho, hav, hkv, Instr.indexAt, asIntOf, run_underlying hf.und, h0, hlt, hszr, hadd, zQ, zJ]
  ·cases hq
 ·rename_i el _ tag sz n cs k hel hx hk
  split at hq
  ·rename_i hc
   obtain ⟨hse, h0, hlt, hsz, hok⟩ := hc
   obtain ⟨ti, d, zz, hf⟩ := hty.facts hse
   have hd := hf.slice hel
   subst hd
   simp only [Option.some.injEq, Prod.mk.injEq] at hq
   obtain ⟨rfl, rfl⟩ := hq
   obtain ⟨aG, haG, hav, haok, har⟩ := kA h ha hx
   obtain ⟨u, rfl, hu⟩ := k9 haG
   obtain ⟨v, ds, rfl, rfl⟩ := zHm hu
   obtain ⟨kk, hkv⟩ := pJ h ha hk
   obtain ⟨ti2, d2, zz2, hf2⟩ := hty.facts hok
   simp only [okC, okT, Nat.add_eq_zero_iff, Nat.succ_ne_self, and_false, if_false] at haok
   obtain ⟨hl, hts, ⟨A, cap, rfl, hc2, hor⟩, htag, hsh⟩ := haok
   obtain ⟨ad, rfl, hs2, hR, hcells⟩ := hor.resolve_left (by omega)
   have hRR : R ad.block := by
    exact h.PR _ _ hR
   refine ⟨S, .c (.rptr (.pointer (some (ad.add (k.toNat * sz)))) (ds.drop (k.toNat * sz))), ?_, ?_⟩
   ·have := QRes.ref (c := .rptr (.pointer (some (ad.add (k.toNat * sz)))) (ds.drop (k.toNat * sz))) h ?_ (by simp [zP]) (by simp [zF])
    ·simpa [erC, zI, yO, er0, List.map_drop] using this
    ·simp only [okC]
     refine ⟨u9 hts, cV (zOd htag hsh), _, rfl, by rw [uG hs2], .inr ?_⟩
     rw [uG hs2]
     exact ⟨hRR, by rw [List.map_drop]; exact lQ hcells _⟩
   ·have hszr : ∀ w', (sizeOf el).run Pr w' = .ok sz w' := by intro w'; rw [hsz]; simp [sizeOf, typeInfo, hf2.info, hf2.size]
    simp only [zJ, zV] at hav
    intro w'
    simp [execOp, ho, hav, hkv, Instr.indexAt, asIntOf, run_underlying hf.und, h0, hlt, hszr, zQ, zJ]
  ·cases hq
 ·cases hq
theorem tB (hty : jB Pr cx.ty) (h : Rel (zB cx f) w0 E0 P R ea w S tmps) (ha : a.tmps = tmps) {o : Oper} {e : Nat} {x i : Operand} (ho : o.op = .indexAddr e x i) {z : XU} {Su : SU}
  (hq : qval cx f call (V.erS S) o.type (.indexAddr e x i) = some (z, Su)) : lI cx f w0 E0 P R ea w tmps Pr a o z Su := (pW hty h ha ho hq).ww
theorem gC : ∀ {xs : List XV} {c : CV}, c ∈ zT xs → ∀ r ∈ zF c, r ∈ yN xs
 | [], c, hc, r, hr => by simp [zT] at hc
 | x :: xs, c, hc, r, hr => by
  simp only [yN, List.mem_append]
  cases x with
  | c x =>
   simp only [zT, List.mem_cons] at hc
   rcases hc with rfl | hc
   ·exact .inl (by simpa [zD] using hr)
   ·exact .inr (gC hc r hr)
  | agg cs =>
   simp only [zT, List.mem_append] at hc
   rcases hc with hc | hc
   ·refine .inl ?_
    simp only [zD, yI, List.mem_flatMap]
    exact ⟨c, hc, hr⟩
   ·exact .inr (gC hc r hr)
  | _ => exact .inr (gC (by simpa [zT] using hc) r hr)
theorem Rel.root_refs (h : Rel (zB cx f) w0 E0 P R ea w S tmps) {r : Root} {cs : List CV} (hr : zA S r = some cs) {c : CV} (hc : c ∈ cs) : ∀ d', Root.sl d' ∈ zF c → zB cx f d' = true := by
 intro d' hd'
 have hmem : ∀ cs : List CV, c ∈ cs → Root.sl d' ∈ zK cs := fun cs hc => by
  rw [yI, List.mem_flatMap]; exact ⟨c, hc, hd'⟩
 cases r with
 | sl d =>
  simp only [zA] at hr
  refine h.refS d d' ?_
  cases hs : S.s d with
  | undef => simp [hs] at hr
  | c x =>
   simp only [hs, Option.some.injEq] at hr; subst hr
   simp only [List.mem_singleton] at hc; subst hc
   simpa [zD] using hd'
  | agg xs => simp only [hs, Option.some.injEq] at hr; subst hr; simpa [zD] using hmem _ hc
  | box b xs => simp only [hs, Option.some.injEq] at hr; subst hr; simpa [zD] using hmem _ hc
  | tup xs => simp only [hs, Option.some.injEq] at hr; subst hr; simpa [zD] using gC hc _ hd'
 | ex j => exact h.refE j cs d' hr (hmem _ hc)
theorem Rel.at_refs (h : Rel (zB cx f) w0 E0 P R ea w S tmps) {r : Root} {p : List Nat} {i : Nat} {c : CV} (hat : at_ S r p i = some c) : ∀ d', Root.sl d' ∈ zF c → zB cx f d' = true := by
 by_cases he : p = []
 ·subst he
  simp only [at_] at hat
  cases hr : zA S r with
  | none => simp [hr] at hat
  | some cs =>
   simp only [hr, Option.bind_some, y9] at hat
   exact h.root_refs hr (List.mem_of_getElem? hat)
 ·rw [j0 he, iW] at hat
  split at hat
  ·rename_i ds _
   cases hj : ds[i]? with
   | none => simp [hj] at hat
   | some x =>
    simp only [hj, Option.map_some, Option.some.injEq] at hat
    subst hat
    intro d' hd'
    simp [zF] at hd'
  ·cases hat
theorem zBh (h : Rel (zB cx f) w0 E0 P R ea w S tmps) {r : Root} {p : List Nat} (hv : ∀ d', r = .sl d' → zB cx f d' = true) : ∀ {n off : Nat} {cs : List CV}, jT S r p off n = some cs →
  cs.length = n ∧ yF w P R S ea cs ∧ zH cs = [] ∧ (∀ d', Root.sl d' ∈ zK cs → zB cx f d' = true) ∧
  ∀ ad, yV S ea r p = some ad → ∀ j c, cs[j]? = some c → w.cell? ⟨ad.block, ad.off + off + j, none⟩ = some (zJ c)
 | 0, off, cs, hl => by
  simp only [jT, Option.some.injEq] at hl
  subst hl
  simp [yF, zH, zK]
 | n + 1, off, cs, hl => by
  simp only [jT] at hl
  cases hat : at_ S r p off with
  | none => simp [hat] at hl
  | some c =>
   simp only [hat, Option.bind_some] at hl
   cases hn : jT S r p (off + 1) n with
   | none => simp [hn] at hl
   | some ds =>
    simp only [hn, Option.map_some, Option.some.injEq] at hl
    subst hl
    obtain ⟨i1, i2, i3, i4, i5⟩ := zBh h hv hn
    obtain ⟨k1, k2, k3, k4⟩ := zF6 hat (h.at_ok hat)
    refine ⟨by simp [i1], ⟨k1, i2⟩, by simp [zH, k3, i3], ?_, ?_⟩
    ·intro d' hd'
     simp only [zK, List.mem_append] at hd'
     rcases hd' with hd' | hd'
     ·rcases k4 _ hd' with e | e
      ·exact hv d' e.symm
      ·exact h.at_refs hat d' e
     ·exact i4 d' hd'
    ·intro ad had j c' hj
     cases j with
     | zero =>
      simp only [List.getElem?_cons_zero, Option.some.injEq] at hj
      subst hj
      rw [k2, Nat.add_zero]
      exact (h.cell_at had hat).1
     | succ j =>
      simp only [List.getElem?_cons_succ] at hj
      have := i5 ad had j c' hj
      rwa [show ad.off + (off + 1) + j = ad.off + off + (j + 1) by omega] at this
theorem cT (t : TypeId) (d : TypeDesc) (hd : Pr.underlying t = some d) : (isAgg t).run Pr w = .ok (zFl d) w := by
 cases d <;> simp [isAgg, run_underlying hd, zFl]
theorem zFs {t : Nat} {cs : List CV} {x : XU} (hx : mkX cx t (cs.map erC) = some x) :
  ∃ xG, erX xG = x ∧ (((cx.ty t).agg = true ∧ cs.length = (cx.ty t).sz ∧ xG = .agg cs) ∨ ((cx.ty t).agg = false ∧ ∃ c, cs = [c] ∧ xG = .c c)) := by
 simp only [mkX, List.length_map] at hx
 split at hx
 ·rename_i hagg
  split at hx
  ·rename_i hl
   simp only [Option.some.injEq] at hx
   subst hx
   exact ⟨.agg cs, by simp [erX, zW, zR], .inl ⟨hagg, hl, rfl⟩⟩
  ·cases hx
 ·rename_i hagg
  cases cs with
  | nil => simp at hx
  | cons c cs =>
   cases cs with
   | nil =>
    simp only [List.map_cons, List.map_nil, Option.some.injEq] at hx
    subst hx
    exact ⟨.c c, by simp [erX, zW, erC], .inr ⟨by simpa using hagg, c, rfl, rfl⟩⟩
   | cons c' cs => simp at hx
theorem bU (hty : jB Pr cx.ty) {e : Nat} (he : (cx.ty e).ok = true) {b o : Nat} {cs : List CV} {xG : XV} (hl : cs.length = (cx.ty e).sz)
  (hc : ∀ j c, cs[j]? = some c → w.cell? ⟨b, o + j, none⟩ = some (zJ c))
  (hx : ((cx.ty e).agg = true ∧ cs.length = (cx.ty e).sz ∧ xG = .agg cs) ∨ ((cx.ty e).agg = false ∧ ∃ c, cs = [c] ∧ xG = .c c)) :
  (Instr.loadAt e (.pointer (some ⟨b, o, none⟩))).run Pr w = .ok (zQ xG) w := by
 obtain ⟨ti, d, zz, hf⟩ := hty.facts he
 have hsz : (sizeOf e).run Pr w = .ok (cs.map zJ).length w := by simp [sizeOf, typeInfo, hf.info, hf.size, hl]
 have hlc : (loadCells ⟨b, o, none⟩ (cs.map zJ).length).run Pr w = .ok (cs.map zJ).toArray w := by
  refine run_loadCells_list w _ _ ?_
  intro j v hj
  rw [List.getElem?_map] at hj
  cases hcj : cs[j]? with
  | none => simp [hcj] at hj
  | some c =>
   simp only [hcj, Option.map_some, Option.some.injEq] at hj
   subst hj
   rw [Addr.add_lit]
   exact hc j c hcj
 rcases hx with ⟨hagg, _, rfl⟩ | ⟨hagg, c, rfl, rfl⟩
 ·have h1 := cT (w := w) e d hf.und
  rw [hf.agg, hagg] at h1
  simp [Instr.loadAt, Instr.sureAddr, loadVar, h1, hsz, hlc, zQ, z8]
  simp only [List.length_map] at hlc
  simp [hlc]
 ·have h1 := cT (w := w) e d hf.und
  rw [hf.agg, hagg] at h1
  have := hc 0 c rfl
  simp only [Nat.add_zero] at this
  simp [Instr.loadAt, Instr.sureAddr, loadVar, h1, this, zQ]
theorem zNl (hty : jB Pr cx.ty) (h : Rel (zB cx f) w0 E0 P R ea w S tmps) (ha : a.tmps = tmps) {o : Oper} {e : Nat} {x : Operand} (ho : o.op = .load e x) {z : XU} {Su : SU}
  (hq : qval cx f call (V.erS S) o.type (.load e x) = some (z, Su)) : lI cx f w0 E0 P R ea w tmps Pr a o z Su := by
 simp only [qval] at hq
 split at hq
 ·rename_i _ r p off hx
  split at hq
  ·rename_i hok
   obtain ⟨aG, haG, hav, haok, har⟩ := kA h ha hx
   obtain ⟨v, rfl⟩ := mZ haG
   simp only [okC, vB] at haok
   obtain ⟨ad, had, rfl⟩ := haok
   rw [show V.erS S = jJ er0 S from rfl, cD] at hq
   cases hl : jT S r p off (cx.ty e).sz with
   | none => simp [hl] at hq
   | some cs =>
    simp only [hl, Option.map_some, Option.bind_some] at hq
    cases hm : mkX cx e (cs.map erC) with
    | none => simp [hm] at hq
    | some x' =>
     simp only [hm, Option.map_some, Option.some.injEq, Prod.mk.injEq] at hq
     obtain ⟨rfl, rfl⟩ := hq
     obtain ⟨l1, l2, l3, l4, l5⟩ := zBh h (fun d' e' => har d' (by simp [zF, e'])) hl
     obtain ⟨xG, hx1, hx2⟩ := zFs hm
     have hxp : okX w P R S ea xG ∧ zE xG = [] ∧ zD xG = zK cs := by
      rcases hx2 with ⟨_, _, rfl⟩ | ⟨_, c, rfl, rfl⟩
      ·exact ⟨by simpa [okX] using l2, by simpa [zE] using l3, by simp [zD]⟩
      ·exact ⟨by simpa [okX] using l2.1, by simpa [zE, zH] using l3, by simp [zD, zK]⟩
     obtain ⟨p1, p2, p3⟩ := hxp
     refine ⟨S, xG, ⟨Grow.refl w, hx1, rfl, h, p1, fun d' hd' => l4 d' (p3 ▸ hd'), by rw [p2]; exact List.nodup_nil, fun r b hb => by rw [p2] at hb; simp at hb, fun b hb => by rw [p2] at hb; simp at hb, fun b hb => by rw [p2] at hb; simp at hb, fun b hb => by rw [p2] at hb; simp at hb⟩, ?_⟩
     simp only [zJ] at hav
     have hr := bU (Pr := Pr) (w := w) hty hok l1 (fun j c hj => l5 ad had j c hj) hx2
     simp [execOp, ho, hav, hr]
  ·cases hq
 ·rename_i _ cs hx
  split at hq
  ·rename_i hok
   obtain ⟨hok, hn⟩ := hok
   obtain ⟨aG, haG, hav, haok, har⟩ := kA h ha hx
   obtain ⟨v, ds, rfl, rfl⟩ := zM5 haG
   simp only [okC] at haok
   obtain ⟨h1, h2, ad, rfl, h4, h5⟩ := haok
   have hmm : ((ds.map erT).take (cx.ty e).sz).map C.t = (((ds.take (cx.ty e).sz).map C.t).map erC : List CU) := by
    rw [← List.map_take, List.map_map, List.map_map]; rfl
   rw [hmm] at hq
   cases hm : mkX cx e (((ds.take (cx.ty e).sz).map C.t).map erC) with
   | none => rw [hm] at hq; simp at hq
   | some x' =>
    rw [hm] at hq
    simp only [Option.map_some, Option.some.injEq, Prod.mk.injEq] at hq
    obtain ⟨rfl, rfl⟩ := hq
    simp only [List.length_map] at hn
    have l2 : yF w P R S ea ((ds.take (cx.ty e).sz).map C.t) := zY.2 fun c hc => by
     obtain ⟨y, hy, rfl⟩ := List.mem_map.1 hc
     simp only [okC]
     exact yJ.1 (fU h1) y hy
    have l3 : zH ((ds.take (cx.ty e).sz).map C.t) = [] := by
     rw [yW, List.flatMap_eq_nil_iff]
     intro c hc
     obtain ⟨y, hy, rfl⟩ := List.mem_map.1 hc
     simp only [zP]
     exact d9 (xU.1 (zEv h2) y hy)
    have l4 : zK ((ds.take (cx.ty e).sz).map C.t) = [] := by
     rw [yI, List.flatMap_eq_nil_iff]
     intro c hc
     obtain ⟨y, hy, rfl⟩ := List.mem_map.1 hc
     simp [zF]
    obtain ⟨xG, hx1, hx2⟩ := zFs hm
    have hxp : okX w P R S ea xG ∧ zE xG = [] ∧ zD xG = [] := by
     rcases hx2 with ⟨_, _, rfl⟩ | ⟨_, c, he, rfl⟩
     ·exact ⟨by simpa [okX] using l2, by simpa [zE] using l3, by simpa [zD] using l4⟩
     ·rw [he] at l2 l3 l4
      exact ⟨by simpa [okX] using l2.1, by simpa [zE, zH] using l3, by simpa [zD, zK] using l4⟩
    refine ⟨S, xG, ⟨Grow.refl w, hx1, rfl, h, New.plain hxp.1 hxp.2.1 hxp.2.2⟩, ?_⟩
    simp only [zJ] at hav
    have hadl : ad = ⟨ad.block, ad.off, none⟩ := by obtain ⟨b, o', s⟩ := ad; simp only at h4; subst h4; rfl
    have hcells : ∀ j c, ((ds.take (cx.ty e).sz).map C.t)[j]? = some c → w.cell? ⟨ad.block, ad.off + j, none⟩ = some (zJ c) := by
     intro j c hj
     rcases h5 with rfl | ⟨_, h6⟩
     ·simp at hj
     ·refine sV h6 (cx.ty e).sz j (zJ c) ?_
      rw [List.getElem?_map] at hj
      rw [← List.map_take, List.getElem?_map]
      cases hd : (ds.take (cx.ty e).sz)[j]? with
      | none => simp [hd] at hj
      | some y => simp only [hd, Option.map_some, Option.some.injEq] at hj ⊢; subst hj; rfl
    have hr := bU (Pr := Pr) (w := w) hty hok (by simp [List.length_take, Nat.min_eq_left hn]) hcells hx2
    rw [← hadl] at hr
    simp [execOp, ho, hav, hr]
  ·cases hq
 ·cases hq
end
end Go.Proofs.YtlkjnlfddadlmaaGreatDoor.V
