/- The abstract values, the operations on them, and the abstract run of loaded code. -/
import Derived.Deep.AppendSrc
import Derived.Deep.MidRow
import Derived.Laws.MakeOwn
import Derived.Laws.StructEq
import Derived.Laws.CopyRow
import Derived.LoopN
import Derived.Still
import Derived.Laws.Slices
namespace Go.Proofs.Ago
open Go

/-- Abstract values. -/
inductive AV where
  | bool (b : Bool)
  | int (k : IntKind) (n : Int)
  | str (s : List UInt8)
  | flt (k : FloatKind) (n : Nat)
  | cpx (k : FloatKind) (re im : Nat)
  | nilp
  | ptr (b i off : Nat)
  | eptr (v : AV) (off : Nat)
  | vsl (full : Bool) (xs : List AV)
  | nils
  | osl (b off len : Nat)
  | asl (b i off len : Nat)
  | agg (cs : List AV)
  | tup (cs : List AV)
  | fn (f : Fn) (first cap : List AV)
  | nilf
  | ifc (t : Nat) (v : AV)
  | nili
  | opq
  | unk
  deriving Inhabited

/-- Of a row: how many of its elements are not written any more; the type of its block, where it is known. -/
structure Ro where
  n : Nat
  ty : Option Nat
  deriving Inhabited

/-- The type is kept, if it is this one. -/
def Ro.keep (ro : Ro) (ty : Nat) : Ro := ⟨ro.n, if ro.ty = some ty then some ty else none⟩

/-- A block of the store: gone, not yet made, or a row of elements, of so many cells each, of which the first ones are not written any more. -/
inductive Blk where
  | dead
  | fresh
  | row (esz : Nat) (xs : List AV) (ro : Ro)
  deriving Inhabited

abbrev Store := List Blk

def AV.cells : AV → List AV
  | .agg cs => cs
  | v => [v]

def AV.one : AV → Bool
  | .agg _ | .tup _ | .unk => false
  | _ => true

def absV : Value → AV
  | .bool b => .bool b
  | .int k n => .int k n
  | .float k n => .flt k n
  | .complex k a b => .cpx k a b
  | .string s => .str s.data.toList
  | .pointer none => .nilp
  | .slice none 0 0 => .nils
  | .nilFunc => .nilf
  | .nilIface => .nili
  | .map _ => .opq
  | .agg cs => .agg (cs.toList.map fun
    | .bool b => .bool b
    | .int k n => .int k n
    | .float k n => .flt k n
    | .complex k a b => .cpx k a b
    | .string s => .str s.data.toList
    | .pointer none => .nilp
    | .slice none 0 0 => .nils
    | .nilFunc => .nilf
    | .nilIface => .nili
    | .map _ => .opq
    | _ => .unk)
  | .tuple cs => if cs.size = 0 then .tup [] else .unk
  | _ => .unk

def undefA : AV := .tup []

/-- Operations, their layouts resolved. -/
inductive ROp where
  | mov | pick
  | box (t : Nat)
  | alloc (z : AV) (t : Nat)
  | build (z : List AV) (pl : List (Nat × Nat))
  | bslice (esz : Nat) (z : AV) (n : Nat) (ix : List Nat)
  | load (n : Option Nat)
  | store (n : Nat)
  | nilchk
  | bin (op : BinOp)
  | eqb (neg : Bool)
  | eqp (neg : Bool)
  | eqs (neg : Bool)
  | eqc (neg : Bool) (n : Nat) (offs : List (Nat × Nat))
  | un (op : UnOp)
  | cint (k : IntKind)
  | cstr
  | cbs
  | sstr (lo hi : Bool)
  | ssl (esz : Nat) (lo hi mx : Bool)
  | sla (n : Nat) (lo hi : Bool)
  | faddr (off : Nat)
  | field (off : Nat) (n : Option Nat)
  | ixs (esz : Nat)
  | ixp (n esz : Nat)
  | ixa (n esz : Nat) (l : Option Nat)
  | ixstr
  | extract (i : Nat)
  | lens
  | len
  | lenK (n : Nat)
  | append (esz bytes : Nat) (sb : Bool) (t : Nat)
  | copy (esz : Nat)
  | min2 | max2
  | mkIface (t : Nat)
  | mkfn (f : Fn) (nf : Nat)
  | mkSlice (esz bytes : Nat) (z : AV)
  | mkMap
  | cvp
  | cvu (l : List (Nat × Nat × Nat))
  | usd
  | ustr (t : Nat)
  deriving Inhabited

def ldc (n : Option Nat) (cs : List AV) (off : Nat) : Option AV :=
  match n with
  | none => cs[off]?
  | some n => if off + n ≤ cs.length then some (.agg ((cs.drop off).take n)) else none

def splice (cs : List AV) (off : Nat) (vs : List AV) : List AV := cs.take off ++ vs ++ cs.drop (off + vs.length)

def fillA : List AV → List ((Nat × Nat) × AV) → Option (List AV)
  | z, [] => some z
  | z, ((off, sz), v) :: r =>
    if v.cells.length = sz ∧ off + sz ≤ z.length ∧ v.cells.all AV.one = true then fillA (splice z off v.cells) r else none

def mkLike : AV → List AV → AV
  | .agg _, cs => .agg cs
  | _, [c] => c
  | _, cs => .agg cs

def maxA : Nat := 1099511627776

def binI (op : BinOp) (k : IntKind) (a b : Int) : Option AV :=
  match op with
  | .add => some (.int k (k.wrap (a + b)))
  | .sub => some (.int k (k.wrap (a - b)))
  | .mul => some (.int k (k.wrap (a * b)))
  | .quo => if b = 0 then none else some (.int k (k.wrap (a.tdiv b)))
  | .rem => if b = 0 then none else some (.int k (a.tmod b))
  | .and => some (.int k (k.wrap (BitVec.ofInt k.bits a &&& BitVec.ofInt k.bits b).toNat))
  | .or => some (.int k (k.wrap (BitVec.ofInt k.bits a ||| BitVec.ofInt k.bits b).toNat))
  | .xor => some (.int k (k.wrap (BitVec.ofInt k.bits a ^^^ BitVec.ofInt k.bits b).toNat))
  | .andNot => some (.int k (k.wrap (BitVec.ofInt k.bits a &&& ~~~(BitVec.ofInt k.bits b)).toNat))
  | .eql => some (.bool (a == b))
  | .neq => some (.bool (a != b))
  | .lss => some (.bool (a < b))
  | .leq => some (.bool (a ≤ b))
  | .gtr => some (.bool (a > b))
  | .geq => some (.bool (a ≥ b))
  | _ => none

def shiftI (op : BinOp) (k : IntKind) (a b : Int) : Option AV :=
  if b < 0 then none
  else match op with
    | .shl => some (.int k (k.wrap (a * 2 ^ (min b.toNat k.bits))))
    | .shr => some (.int k (a.fdiv (2 ^ (min b.toNat k.bits))))
    | _ => none

def binS (op : BinOp) (a b : List UInt8) : Option AV :=
  match op with
  | .add => if a.length + b.length ≤ maxA then some (.str (a ++ b)) else none
  | .eql => some (.bool (a == b))
  | .neq => some (.bool !(a == b))
  | .lss => some (.bool (Op.bytesLess a b))
  | .leq => some (.bool (Op.bytesLess a b || a == b))
  | .gtr => some (.bool !(Op.bytesLess a b || a == b))
  | .geq => some (.bool !(Op.bytesLess a b))
  | _ => none

def binA (op : BinOp) : AV → AV → Option AV
  | .int k a, .int k' b =>
    match op with
    | .shl | .shr => shiftI op k a b
    | _ => if k = k' then binI op k a b else none
  | .str a, .str b => binS op a b
  | _, _ => none

/-- Two cells of a plain kind (0 bool, 1 int, 2 string): are they the same? -/
def eqCell : Nat → AV → AV → Option Bool
  | 0, .bool a, .bool b => some (a == b)
  | 1, .int k a, .int k' b => if k = k' then some (a == b) else none
  | 2, .str a, .str b => some (a == b)
  | _, _, _ => none

def eqCells (xs ys : List AV) : List (Nat × Nat) → Option Bool
  | [] => some true
  | (o, k) :: r =>
    match eqCell k (xs.getD o .unk) (ys.getD o .unk) with
    | some true => eqCells xs ys r
    | r => r

/-- The elements that an appended or copied argument yields. -/
def srcOf (st : Store) : AV → Option (List AV)
  | .vsl _ xs => some xs
  | .nils => some []
  | .osl b off len => match st[b]? with
    | some (.row _ xs _) => if off + len ≤ xs.length then some ((xs.drop off).take len) else none
    | _ => none
  | .asl b i off len => match st[b]? with
    | some (.row _ xs _) => (xs[i]?).bind fun e => if off + len ≤ e.cells.length ∧ ((e.cells.drop off).take len).all AV.one = true then some ((e.cells.drop off).take len) else none
    | _ => none
  | .str s => some (s.map fun c => .int .u8 c.toNat)
  | _ => none

def goodEls (esz : Nat) (xs : List AV) : Bool := xs.all fun v => v.cells.length == esz && v.cells.all AV.one

def int64 (n : Nat) : AV := .int .i64 n

def bound (b : Bool) (vs : List AV) (d : Nat) : Option (Nat × List AV) :=
  if b then match vs with
    | .int _ i :: r => if 0 ≤ i then some (i.toNat, r) else none
    | _ => none
  else some (d, vs)

def asU8 : AV → Option UInt8
  | .int .u8 n => some (UInt8.ofNat n.toNat)
  | _ => none

/-- No handle of the store in it. -/
def AV.pure : AV → Bool
  | .ptr .. | .eptr .. | .osl .. | .asl .. => false
  | .agg cs | .tup cs => pureL cs
  | .fn _ a b => pureL a && pureL b
  | .ifc _ v => v.pure
  | _ => true
where
  pureL : List AV → Bool
    | [] => true
    | v :: r => v.pure && pureL r

/- Are two values the same? -/
mutual
def eqAV : AV → AV → Bool
  | .bool a, .bool b => a == b
  | .int k a, .int k' b => k == k' && a == b
  | .str a, .str b => a == b
  | .nilp, .nilp => true
  | .ptr a b c, .ptr a' b' c' => Nat.beq a a' && Nat.beq b b' && Nat.beq c c'
  | .vsl f xs, .vsl f' ys => f == f' && eqAVs xs ys
  | .nils, .nils => true
  | .osl a b c, .osl a' b' c' => Nat.beq a a' && Nat.beq b b' && Nat.beq c c'
  | .agg xs, .agg ys => eqAVs xs ys
  | .nilf, .nilf => true
  | .ifc t v, .ifc t' v' => Nat.beq t t' && eqAV v v'
  | .nili, .nili => true
  | .opq, .opq => true
  | _, _ => false
def eqAVs : List AV → List AV → Bool
  | [], [] => true
  | x :: xs, y :: ys => eqAV x y && eqAVs xs ys
  | _, _ => false
end

section
variable (st : Store)

/-- A new block: behind the others, or in a place that was kept for it. -/
def newBlk (sl : Option Nat) (b : Blk) : Option (Nat × Store) :=
  match sl with
  | none => some (st.length, st ++ [b])
  | some s => match st[s]? with
    | some .fresh => some (s, st.set s b)
    | _ => none

def rMov : List AV → Option (AV × Store)
  | [x] => some (x, st)
  | _ => none
def rPick : List AV → Option (AV × Store)
  | [.bool c, a, b] => some (if c then a else b, st)
  | _ => none
def rBox (sl : Option Nat) (ty : Option Nat) : List AV → Option (AV × Store)
  | [v] => if v.cells.all AV.one then (newBlk st sl (.row v.cells.length [v] ⟨0, ty⟩)).map fun x => (.ptr x.1 0 0, x.2) else none
  | _ => none
def rBuild (z : List AV) (pl : List (Nat × Nat)) (vs : List AV) : Option (AV × Store) :=
  if pl.length = vs.length then (fillA z (pl.zip vs)).map fun cs => (.agg cs, st) else none
def rBslice (sl : Option Nat) (esz : Nat) (z : AV) (n : Nat) (ix : List Nat) (vs : List AV) : Option (AV × Store) :=
  if ix = List.range n ∧ vs.length = n ∧ goodEls esz vs = true then
    if AV.pure.pureL vs then some (.vsl true vs, st) else (newBlk st sl (.row esz vs ⟨0, none⟩)).map fun x => (.osl x.1 0 n, x.2)
  else if ix = [] ∧ vs = [] ∧ goodEls esz [z] = true ∧ z.pure = true then some (.vsl true (List.replicate n z), st) else none
def rLoad (n : Option Nat) : List AV → Option (AV × Store)
  | [.ptr b i off] => match st[b]? with
    | some (.row _ xs _) => (xs[i]?).bind fun v => (ldc n v.cells off).map fun r => (r, st)
    | _ => none
  | [.eptr v off] => (ldc n v.cells off).map fun r => (r, st)
  | _ => none
def rStore (n : Nat) : List AV → Option (AV × Store)
  | [.ptr b i off, v] => match st[b]? with
    | some (.row esz xs ro) => (xs[i]?).bind fun e =>
      if 0 < n ∧ ro.n ≤ i ∧ v.cells.length = n ∧ v.cells.all AV.one = true ∧ off + n ≤ e.cells.length
      then some (undefA, st.set b (.row esz (xs.set i (mkLike e (splice e.cells off v.cells))) ro)) else none
    | _ => none
  | _ => none
def rNilchk : List AV → Option (AV × Store)
  | [.ptr b i off] => some (.ptr b i off, st)
  | [.eptr v off] => some (.eptr v off, st)
  | [.fn (.func f) a b] => some (.fn (.func f) a b, st)
  | _ => none
def rBin (op : BinOp) : List AV → Option (AV × Store)
  | [a, b] => (binA op a b).map fun v => (v, st)
  | _ => none
def rEqb (neg : Bool) : List AV → Option (AV × Store)
  | [.bool a, .bool b] => some (.bool ((a == b) != neg), st)
  | _ => none
def rEqp (neg : Bool) : List AV → Option (AV × Store)
  | [.nilp, .nilp] => some (.bool (true != neg), st)
  | [.ptr .., .nilp] => some (.bool (false != neg), st)
  | [.eptr .., .nilp] => some (.bool (false != neg), st)
  | [.ptr b i off, .ptr b' i' off'] => if b = b' ∧ i = i' ∧ off = off' then some (.bool (true != neg), st) else none
  | _ => none
def rEqs (neg : Bool) : List AV → Option (AV × Store)
  | [.nils, .nils] => some (.bool (true != neg), st)
  | [.vsl _ (_ :: _), .nils] => some (.bool (false != neg), st)
  | [.osl .., .nils] => some (.bool (false != neg), st)
  | _ => none
def rEqc (neg : Bool) (n : Nat) (offs : List (Nat × Nat)) : List AV → Option (AV × Store)
  | [.agg xs, .agg ys] => if xs.length = n ∧ ys.length = n then (eqCells xs ys offs).map fun r => (.bool (r != neg), st) else none
  | _ => none
def rUn (op : UnOp) : List AV → Option (AV × Store)
  | [.int k n] => match op with
    | .neg => some (.int k (k.wrap (0 - n)), st)
    | .xor => some (.int k (k.wrap (BitVec.ofInt k.bits (if k.signed then -1 else k.max) ^^^ BitVec.ofInt k.bits n).toNat), st)
    | _ => none
  | [.bool b] => match op with
    | .not => some (.bool !b, st)
    | _ => none
  | _ => none
def rCint (k : IntKind) : List AV → Option (AV × Store)
  | [.int _ n] => some (.int k (k.wrap n), st)
  | _ => none
def rCstr : List AV → Option (AV × Store)
  | [.str s] => some (.str s, st)
  | _ => none
def rCbs : List AV → Option (AV × Store)
  | [.str _] => none
  | [x] => (srcOf st x).bind fun xs => (xs.mapM asU8).map fun s => (.str s, st)
  | _ => none
def rSstr (lo hi : Bool) : List AV → Option (AV × Store)
  | .str s :: vs => (bound lo vs 0).bind fun l => (bound hi l.2 s.length).bind fun h =>
      if l.1 ≤ h.1 ∧ h.1 ≤ s.length then some (.str ((s.drop l.1).take (h.1 - l.1)), st) else none
  | _ => none
def headOk (esz : Nat) : List AV → Bool
  | [] => true
  | v :: _ => v.cells.length == esz
def rSsl (esz : Nat) (lo hi mx : Bool) : List AV → Option (AV × Store)
  | .vsl f xs :: vs => (bound lo vs 0).bind fun l => (bound hi l.2 xs.length).bind fun h => (bound mx h.2 xs.length).bind fun m =>
      if l.1 ≤ h.1 ∧ h.1 ≤ m.1 ∧ m.1 ≤ xs.length ∧ headOk esz xs = true then some (.vsl (if mx then m.1 == h.1 else f && h.1 == xs.length) ((xs.drop l.1).take (h.1 - l.1)), st) else none
  | .nils :: vs => (bound lo vs 0).bind fun l => (bound hi l.2 0).bind fun h => (bound mx h.2 0).bind fun m => if l.1 = 0 ∧ h.1 = 0 ∧ m.1 = 0 then some (.nils, st) else none
  | .osl b off len :: vs => (bound lo vs 0).bind fun l => (bound hi l.2 len).bind fun h => match st[b]? with
      | some (.row e xs _) => if e = esz ∧ off + len ≤ xs.length then
          if mx then (bound mx h.2 0).bind fun m => if l.1 = h.1 ∧ h.1 = m.1 ∧ m.1 ≤ len then some (.vsl true [], st) else none
          else if l.1 ≤ h.1 ∧ h.1 ≤ len then
            if h.1 = l.1 ∧ l.1 ≠ 0 then some (.vsl false [], st) else some (.osl b (off + l.1) (h.1 - l.1), st)
          else none
        else none
      | _ => none
  | _ => none
def rSla (n : Nat) (lo hi : Bool) : List AV → Option (AV × Store)
  | .ptr b i off :: vs => (bound lo vs 0).bind fun l => (bound hi l.2 n).bind fun h =>
      if l.1 ≤ h.1 ∧ h.1 ≤ n ∧ l.1 < n then some (.asl b i (off + l.1) (h.1 - l.1), st) else none
  | _ => none
def rFaddr (o : Nat) : List AV → Option (AV × Store)
  | [.ptr b i off] => some (.ptr b i (off + o), st)
  | [.eptr v off] => some (.eptr v (off + o), st)
  | _ => none
def rField (off : Nat) (n : Option Nat) : List AV → Option (AV × Store)
  | [.agg cs] => (ldc n cs off).map fun r => (r, st)
  | _ => none
def rIxs (esz : Nat) : List AV → Option (AV × Store)
  | [.vsl _ xs, .int _ i] => if 0 ≤ i then (xs[i.toNat]?).bind fun v => if v.cells.length = esz then some (.eptr v 0, st) else none else none
  | [.osl b off len, .int _ i] => if 0 ≤ i ∧ i < len then match st[b]? with
      | some (.row e _ _) => if e = esz then some (.ptr b (off + i.toNat) 0, st) else none
      | _ => none
    else none
  | _ => none
def rIxp (n esz : Nat) : List AV → Option (AV × Store)
  | [.ptr b j off, .int _ i] => if 0 ≤ i ∧ i < n then some (.ptr b j (off + i.toNat * esz), st) else none
  | [.eptr v off, .int _ i] => if 0 ≤ i ∧ i < n then some (.eptr v (off + i.toNat * esz), st) else none
  | _ => none
def rIxa (n esz : Nat) (l : Option Nat) : List AV → Option (AV × Store)
  | [.agg cs, .int _ i] => if 0 ≤ i ∧ i < n then (ldc l cs (i.toNat * esz)).map fun r => (r, st) else none
  | _ => none
def rIxstr : List AV → Option (AV × Store)
  | [.str s, .int _ i] => if 0 ≤ i then (s[i.toNat]?).map fun c => (.int .u8 c.toNat, st) else none
  | _ => none
def rExtract (i : Nat) : List AV → Option (AV × Store)
  | [.tup vs] => (vs[i]?).map fun v => (v, st)
  | _ => none
def rLens : List AV → Option (AV × Store)
  | [.str s] => some (int64 s.length, st)
  | _ => none
def rLen : List AV → Option (AV × Store)
  | [.vsl _ xs] => some (int64 xs.length, st)
  | [.nils] => some (int64 0, st)
  | [.osl _ _ len] => some (int64 len, st)
  | _ => none
def rLenK (n : Nat) : List AV → Option (AV × Store)
  | [_] => some (int64 n, st)
  | _ => none
def isStr : AV → Bool
  | .str _ => true
  | _ => false
def rApp (sl : Option Nat) (esz bytes : Nat) (ty : Nat) (ys : List AV) : AV → Option (AV × Store)
  | .nils => if ys = [] then some (.nils, st) else
      if ys.length * bytes ≤ maxA ∧ ys.length ≤ maxA then (newBlk st sl (.row esz ys ⟨0, some ty⟩)).map fun x => (.osl x.1 0 ys.length, x.2) else none
  | .vsl f xs => if ys = [] then some (.vsl f xs, st) else
      if f = true ∧ (xs.length + ys.length) * bytes ≤ maxA ∧ xs.length + ys.length ≤ maxA ∧ goodEls esz xs = true
      then (newBlk st sl (.row esz (xs ++ ys) ⟨0, some ty⟩)).map fun x => (.osl x.1 0 (xs.length + ys.length), x.2) else none
  | .osl b off len => if ys = [] then some (.osl b off len, st) else
      match st[b]? with
      | some (.row e xs ro) =>
        if e = esz ∧ ro.n ≤ off + len ∧ off + len ≤ xs.length then
          if off + len + ys.length ≤ xs.length then
            some (.osl b off (len + ys.length), st.set b (.row e (xs.take (off + len) ++ ys ++ xs.drop (off + len + ys.length)) ro))
          else if off = 0 ∧ (len + ys.length) * bytes ≤ maxA ∧ len + ys.length ≤ maxA then
            (newBlk (st.set b .dead) sl (.row e (xs.take len ++ ys) (ro.keep ty))).map fun x => (.osl x.1 0 (len + ys.length), x.2)
          else none
        else none
      | _ => none
  | _ => none
def rAppend (sl : Option Nat) (esz bytes : Nat) (sb : Bool) (ty : Nat) : List AV → Option (AV × Store)
  | [s, x] => (srcOf st x).bind fun ys => if isStr x = sb ∧ goodEls esz ys = true then rApp st sl esz bytes ty ys s else none
  | _ => none
def rCpy (esz : Nat) (ys : List AV) : AV → Option (AV × Store)
  | .nils => some (int64 0, st)
  | .vsl _ [] => some (int64 0, st)
  | .osl b off len => match st[b]? with
      | some (.row e xs ro) => if e = esz ∧ goodEls esz (ys.take len) = true ∧ ro.n ≤ off ∧ off + len ≤ xs.length then
          some (int64 (ys.take len).length, st.set b (.row e (xs.take off ++ ys.take len ++ xs.drop (off + (ys.take len).length)) ro)) else none
      | _ => none
  | _ => none
def rCopy (esz : Nat) : List AV → Option (AV × Store)
  | [d, x] => (srcOf st x).bind fun ys => rCpy st esz ys d
  | _ => none
def rMin2 : List AV → Option (AV × Store)
  | [.int k a, .int k' b] => if k = k' then some (.int k (if b < a then b else a), st) else none
  | _ => none
def rMax2 : List AV → Option (AV × Store)
  | [.int k a, .int k' b] => if k = k' then some (.int k (if b > a then b else a), st) else none
  | _ => none
def rMkIface (t : Nat) : List AV → Option (AV × Store)
  | [v] => some (.ifc t v, st)
  | _ => none
def rMkSlice (sl : Option Nat) (esz bytes : Nat) (z : AV) : List AV → Option (AV × Store)
  | [.int _ l, .int _ c] =>
    if 0 ≤ l ∧ l ≤ c ∧ c * bytes ≤ maxA ∧ c ≤ maxA ∧ goodEls esz [z] = true
    then (newBlk st sl (.row esz (List.replicate c.toNat z) ⟨0, none⟩)).map fun x => (.osl x.1 0 l.toNat, x.2) else none
  | _ => none
/-- A pointer that is turned into one without a type. -/
def rCvp : List AV → Option (AV × Store)
  | [.ptr b i off] => match st[b]? with
    | some (.row _ xs _) => (xs[i]?).bind fun v => if off < v.cells.length then some (.ptr b i off, st) else none
    | _ => none
  | _ => none
/-- .. and back, where a variable of the type lies there: in a block of a type, of so many cells, at a place. -/
def rCvu (l : List (Nat × Nat × Nat)) : List AV → Option (AV × Store)
  | [.ptr b 0 off] => match st[b]? with
    | some (.row esz (_ :: _) ⟨_, some t⟩) => if l.contains (t, esz, off) then some (.ptr b 0 off, st) else none
    | _ => none
  | _ => none
def rUsd : List AV → Option (AV × Store)
  | [.osl b off len] => if 0 < len then some (.ptr b off 0, st) else none
  | [.nils] => some (.nilp, st)
  | _ => none
/-- A text out of bytes; their row is given up. -/
def rUstr (ty : Nat) : List AV → Option (AV × Store)
  | [.ptr b 0 0, .int .i64 n] => match st[b]? with
    | some (.row 1 xs ⟨_, some t⟩) => if t = ty ∧ 0 < n ∧ n.toNat ≤ xs.length ∧ n ≤ maxA then ((xs.take n.toNat).mapM asU8).map fun s => (.str s, st.set b .dead) else none
    | _ => none
  | [.nilp, .int .i64 0] => some (.str [], st)
  | _ => none
end

/-- An operation on values. -/
def rop (sl : Option Nat) (r : ROp) (vs : List AV) (st : Store) : Option (AV × Store) :=
  match r with
  | .mov => rMov st vs
  | .pick => rPick st vs
  | .box t => rBox st sl (some t) vs
  | .alloc z t => rBox st sl (some t) (z :: vs)
  | .build z pl => rBuild st z pl vs
  | .bslice esz z n ix => rBslice st sl esz z n ix vs
  | .load n => rLoad st n vs
  | .store n => rStore st n vs
  | .nilchk => rNilchk st vs
  | .bin op => rBin st op vs
  | .eqb neg => rEqb st neg vs
  | .eqp neg => rEqp st neg vs
  | .eqs neg => rEqs st neg vs
  | .eqc neg n offs => rEqc st neg n offs vs
  | .un op => rUn st op vs
  | .cint k => rCint st k vs
  | .cstr => rCstr st vs
  | .cbs => rCbs st vs
  | .sstr lo hi => rSstr st lo hi vs
  | .ssl esz lo hi mx => rSsl st esz lo hi mx vs
  | .sla n lo hi => rSla st n lo hi vs
  | .faddr o => rFaddr st o vs
  | .field off n => rField st off n vs
  | .ixs esz => rIxs st esz vs
  | .ixp n esz => rIxp st n esz vs
  | .ixa n esz l => rIxa st n esz l vs
  | .ixstr => rIxstr st vs
  | .extract i => rExtract st i vs
  | .lens => rLens st vs
  | .len => rLen st vs
  | .lenK n => rLenK st n vs
  | .append esz bytes sb t => rAppend st sl esz bytes sb t vs
  | .copy esz => rCopy st esz vs
  | .min2 => rMin2 st vs
  | .max2 => rMax2 st vs
  | .mkIface t => rMkIface st t vs
  | .mkfn f nf => some (.fn f (vs.take nf) (vs.drop nf), st)
  | .mkSlice esz bytes z => rMkSlice st sl esz bytes z vs
  | .mkMap => some (.opq, st)
  | .cvp => rCvp st vs
  | .cvu l => rCvu st l vs
  | .usd => rUsd st vs
  | .ustr t => rUstr st t vs

end Go.Proofs.Ago
