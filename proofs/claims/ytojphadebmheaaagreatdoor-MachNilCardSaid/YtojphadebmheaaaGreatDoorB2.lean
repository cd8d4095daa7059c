/- The abstract run of loaded code. -/
import Derived.Test.YtojphadebmheaaaGreatDoorB1
namespace Go.Proofs.Ago
open Go

/-- What an operation comes to: one on values; a call of a function that is known; of a function value. -/
inductive RK where
  | prim (r : ROp)
  | call (f : Nat)
  | clos
  deriving Inhabited

/-- How a type is loaded: one cell, or so many. -/
def layOf (P : Program) (t : TypeId) : Option (Option Nat) :=
  match P.underlying t with
  | some (.struct _) | some (.array _ _) => (P.info? t).map fun i => some i.size
  | some _ => some none
  | none => none

def sizeA (P : Program) (t : TypeId) : Option Nat := (P.info? t).map (·.size)

def zeroA (P : Program) (t : TypeId) : Option AV := (P.info? t).bind fun i => i.zero.map absV

def bytesA (P : Program) (t : TypeId) : Option Nat := (P.info? t).map (·.bytes)

def plainCell : TypeDesc → Bool
  | .bool | .int _ | .string => true
  | _ => false

/-- The cells that are held against each other, at a type, with their kinds. -/
def leaves (P : Program) : Nat → TypeId → Nat → Option (List (Nat × Nat))
  | 0, _, _ => none
  | d + 1, t, off =>
    match P.underlying t with
    | some .bool => some [(off, 0)]
    | some (.int _) => some [(off, 1)]
    | some .string => some [(off, 2)]
    | some (.struct fs) =>
      if P.stoodInHeld t then none else
      fs.toList.foldr (fun f acc =>
        if f.name ≠ "_" then
          match sizeA P f.type, sizeA P t with
          | some n, some m => if f.offset + n ≤ m ∧ 0 < n then (leaves P d f.type (off + f.offset)).bind fun l => acc.map (l ++ ·) else none
          | _, _ => none
        else acc) (some [])
    | _ => none

def resBin (P : Program) (op : BinOp) (t : TypeId) : Option ROp :=
  match op with
  | .eql | .neq =>
    match P.underlying t with
    | some .bool => some (.eqb (op == .neq))
    | some (.int _) | some .string => some (.bin op)
    | some (.pointer e) => (P.info? e).map fun _ => .eqp (op == .neq)
    | some (.slice _) => some (.eqs (op == .neq))
    | some (.struct _) => if P.eqGuardType P.depth t then none else (sizeA P t).bind fun n => (leaves P 10 t 0).map (.eqc (op == .neq) n)
    | _ => none
  | _ => some (.bin op)

def resBuiltin (P : Program) (b : Builtin) (ts : Array TypeId) : Option ROp :=
  match b with
  | .len => (ts[0]?).bind fun t => match P.underlying t with
    | some .string => some .lens
    | some (.slice _) => some .len
    | some (.array n _) => some (.lenK n)
    | _ => none
  | .append => (ts[0]?).bind fun t => (ts[1]?).bind fun u => match P.underlying t, P.underlying u with
    | some (.slice e), some (.slice _) => (P.info? e).bind fun i => i.zero.bind fun z => if z.cells.size = i.size then some (.append i.size i.bytes false e) else none
    | some (.slice e), some .string => (P.info? e).bind fun i => i.zero.bind fun z => if z.cells.size = i.size ∧ i.size = 1 then some (.append i.size i.bytes true e) else none
    | _, _ => none
  | .min => some .min2
  | .max => some .max2
  | .unsafeSliceData => some .usd
  | .unsafeString => (ts[0]?).bind fun pt => match P.underlying pt with
    | some (.pointer e) => if P.cellsOf e = 1 then some (.ustr e) else none
    | _ => none
  | _ => none

/-- The types in which a variable of a type lies, of how many cells, and where. -/
def homes (P : Program) (u : TypeId) : List (Nat × Nat × Nat) :=
  (List.range P.types.size).flatMap fun t => match P.underlying t with
    | some (.struct fs) => (fs.toList.filter fun f => f.type == u && P.cellsOf t != 0 && liesAt P P.depth t 1 f.offset u 1).map fun f => (t, P.cellsOf t, f.offset)
    | _ => []

/-- A function of the model's own that answers what it is given. -/
def sameFn (P : Program) (f : FuncId) : Bool :=
  match P.funcs[f]? with
  | some fn => fn.body.isNone && fn.name == "internal/abi.NoEscape" && fn.origin == ""
  | none => false

def resPlaces (P : Program) (t : TypeId) (ks : List Nat) : Option (List (Nat × Nat)) :=
  match P.underlying t with
  | some (.struct fs) => (fs.toList.mapM fun f => (P.info? f.type).map fun j => (f.offset, j.size)).bind fun all => ks.mapM fun k => all[k]?
  | some (.array _ e) => (P.info? e).bind fun j => some (ks.map fun k => (k * j.size, j.size))
  | _ => none

def resOp (P : Program) : Op → Option (RK × List Operand)
  | .move x | .assign x => some (.prim .mov, [x])
  | .pick c a b => some (.prim .pick, [c, a, b])
  | .alloc t => (zeroA P t).map fun z => (.prim (.alloc z t), [])
  | .box t x => some (.prim (.box t), [x])
  | .build t parts => (zeroA P t).bind fun z => (resPlaces P t (parts.toList.map (·.1))).map fun pl => (.prim (.build z.cells pl), parts.toList.map (·.2))
  | .buildSlice t n parts => match P.underlying t with
    | some (.slice e) => (P.info? e).bind fun i => (zeroA P e).bind fun z =>
        if n * i.size ≤ 16777216 ∧ z.cells.length = i.size then some (.prim (.bslice i.size z n (parts.toList.map (·.1))), parts.toList.map (·.2)) else none
    | _ => none
  | .load t a => (layOf P t).map fun l => (.prim (.load l), [a])
  | .store t a v => (sizeA P t).map fun n => (.prim (.store n), [a, v])
  | .nilCheck x => some (.prim .nilchk, [x])
  | .binOp op t x y _ => (resBin P op t).map fun r => (.prim r, [x, y])
  | .unOp op _ x => some (.prim (.un op), [x])
  | .convert s d x => match P.underlying s, P.underlying d with
    | some (.int _), some (.int k) => some (.prim (.cint k), [x])
    | some .string, some .string => some (.prim .cstr, [x])
    | some (.slice e), some .string => match P.underlying e with
      | some (.int .u8) => some (.prim .cbs, [x])
      | _ => none
    | some (.pointer t), some .unsafePointer => (sizeA P t).bind fun n => if n = 0 then none else some (.prim .cvp, [x])
    | some .unsafePointer, some (.pointer u) => (sizeA P u).bind fun n => if n = 0 then none else some (.prim (.cvu (homes P u)), [x])
    | _, _ => none
  | .makeInterface t x => match P.underlying t with
    | some (.interface _) => none
    | some _ => some (.prim (.mkIface t), [x])
    | none => none
  | .makeFunc f first cap => some (.prim (.mkfn f first.size), first.toList ++ cap.toList)
  | .makeSlice t l c => match P.underlying t with
    | some (.slice e) => (P.info? e).bind fun i => (zeroA P e).bind fun z =>
        if z.cells.length = i.size then some (.prim (.mkSlice i.size i.bytes z), [l, c]) else none
    | _ => none
  | .makeMap _ none => some (.prim .mkMap, [])
  | .slice t x lo hi mx => match P.underlying t with
    | some .string => if mx.isSome then none else some (.prim (.sstr lo.isSome hi.isSome), x :: lo.toList ++ hi.toList)
    | some (.slice e) => (sizeA P e).bind fun n => if mx.isSome ∧ hi.isNone then none else some (.prim (.ssl n lo.isSome hi.isSome mx.isSome), x :: lo.toList ++ hi.toList ++ mx.toList)
    | some (.array n e) => (sizeA P e).bind fun z => if mx.isSome ∨ z ≠ 1 then none else some (.prim (.sla n lo.isSome hi.isSome), x :: lo.toList ++ hi.toList)
    | _ => none
  | .fieldAddr s x k => match P.underlying s with
    | some (.struct fs) => (fs[k]?).bind fun f => (sizeA P f.type).bind fun n => if n = 0 then none else some (.prim (.faddr f.offset), [x])
    | _ => none
  | .field s x k => match P.underlying s with
    | some (.struct fs) => (fs[k]?).bind fun f => (layOf P f.type).map fun l => (.prim (.field f.offset l), [x])
    | _ => none
  | .indexAddr t x i => match P.underlying t with
    | some (.slice e) => (sizeA P e).map fun n => (.prim (.ixs n), [x, i])
    | some (.array n e) => (sizeA P e).map fun z => (.prim (.ixp n z), [x, i])
    | _ => none
  | .index t x i => match P.underlying t with
    | some .string => some (.prim .ixstr, [x, i])
    | some (.array n e) => (sizeA P e).bind fun z => (layOf P e).map fun l => (.prim (.ixa n z l), [x, i])
    | _ => none
  | .extract x i => some (.prim (.extract i), [x])
  | .call { callee := .builtin b, args, argTypes } =>
    if args.size = argTypes.size then (resBuiltin P b argTypes).map fun r => (.prim r, args.toList) else none
  | .call { callee := .value (.func f), args, .. } => if sameFn P f then (if args.size = 1 then some (.prim .mov, args.toList) else none) else some (.call f, args.toList)
  | .call { callee := .value x, args, .. } => some (.clos, x :: args.toList)
  | _ => none

abbrev Env := Nat → AV

def Env.put (E : Env) (d : Option Tmp) (v : AV) : Env :=
  match d with
  | some t => fun u => if u = t then v else E u
  | none => E

def aval (E : Env) : Operand → AV
  | .tmp t => E t
  | .const v => absV v
  | .global _ => .unk
  | .func f => .fn (.func f) [] []

/-- Some places are hidden from a call. -/
def hide (hid : List Nat) (st : Store) : Store := st.mapIdx fun i c => if hid.contains i then .dead else c

/-- They are put back. -/
def restore (hid : List Nat) (old new : Store) : Store := new.mapIdx fun i c => if hid.contains i then (old[i]?).getD c else c

abbrev CallF := Nat → List AV → Store → Option (AV × Store)

def wantedA (ops : Array Oper) (E : Env) (o : Oper) : Option Bool :=
  match o.guard with
  | none => some true
  | some (j, want) =>
    match (ops[j]?).bind (·.dst) with
    | none => some false
    | some t => match E t with
      | .bool b => some (b == want)
      | .unk => none
      | _ => some false

def mapS (f : AV → Store → Option (AV × Store)) : List AV → Store → Option (List AV × Store)
  | [], st => some ([], st)
  | x :: xs, st => (f x st).bind fun y => (mapS f xs y.2).map fun ys => (y.1 :: ys.1, ys.2)

/-- The plain data that a value is; rows that it names are not written any more. -/
def erase : Nat → AV → Store → Option (AV × Store)
  | 0, _, _ => none
  | n + 1, v, st =>
    match v with
    | .vsl _ xs => some (.vsl false xs, st)
    | .osl b off len => match st[b]? with
      | some (.row esz xs ro) => if off + len ≤ xs.length then
          (mapS (erase n) ((xs.drop off).take len) (st.set b (.row esz xs ⟨xs.length, ro.ty⟩))).map fun r => (.vsl false r.1, r.2) else none
      | _ => none
    | .agg cs => (mapS (erase n) cs st).map fun r => (.agg r.1, r.2)
    | .tup cs => (mapS (erase n) cs st).map fun r => (.tup r.1, r.2)
    | .ifc t v => (erase n v st).map fun r => (.ifc t r.1, r.2)
    | .fn f a b => (mapS (erase n) a st).bind fun r => (mapS (erase n) b r.2).map fun s => (.fn f r.1 s.1, s.2)
    | .ptr .. | .eptr .. | .asl .. | .unk => none
    | v => some (v, st)

def eraseFuel : Nat := 12

/-- The rows that are met when a value is turned into plain data. -/
def touch : Nat → AV → Store → List Nat
  | 0, _, _ => []
  | n + 1, v, st =>
    match v with
    | .osl b off len => b :: (match st[b]? with
      | some (.row _ xs _) => ((xs.drop off).take len).flatMap fun x => touch n x st
      | _ => [])
    | .agg cs => cs.flatMap fun x => touch n x st
    | .tup cs => cs.flatMap fun x => touch n x st
    | .ifc _ v => touch n v st
    | .fn _ a b => (a.flatMap fun x => touch n x st) ++ b.flatMap fun x => touch n x st
    | _ => []

def touchL (args : List AV) (st : Store) : List Nat := args.flatMap fun x => touch eraseFuel x st

def okQ : ROp → List AV → Bool
  | .bslice .., vs => AV.pure.pureL vs
  | _, _ => true

def isAlloc : ROp → Bool
  | .box _ | .alloc .. | .mkSlice .. | .append .. => true
  | _ => false

def allocLike (P : Program) (o : Oper) : Bool :=
  match resOp P o.op with
  | some (.prim r, _) => isAlloc r
  | _ => false

/-- How many operations of a region make blocks, ahead of one. -/
def rankA (P : Program) (ops : Array Oper) (i : Nat) : Nat := ((ops.toList.take i).filter (allocLike P)).length

/-- Is a call carried out on plain data alone? 0: never; 1: always; else: of plain arguments. -/
def isPure (m : Nat) (args : List AV) : Bool :=
  match m with
  | 0 => false
  | 1 => true
  | _ => AV.pure.pureL args

def maskOf (acc : List Nat) (o : Oper) : Nat :=
  o.after.toList.foldl (fun s e => if Region.binds .any e then s ||| 2 ^ e.on ||| acc.getD e.on 0 else s) 0

def masks : List Oper → List Nat → List Nat
  | [], acc => acc
  | o :: l, acc => masks l (acc ++ [maskOf acc o])

/-- The places that are hidden from a call: what is made by operations that are not ahead of it. -/
def hidOf (P : Program) (ops : Array Oper) (base : Option Nat) (i : Nat) : List Nat :=
  match base with
  | none => []
  | some b => (List.range ops.size).filterMap fun j => match ops[j]? with
    | some o => if allocLike P o && !((masks ops.toList []).getD i 0).testBit j && j != i then some (b + rankA P ops j) else none
    | none => none

def callH (hid : List Nat) (call : CallF) (f : Nat) (args : List AV) (st : Store) : Option (AV × Store) :=
  match hid with
  | [] => call f args st
  | _ => (call f args (hide hid st)).bind fun r => if hid.all (fun i => Nat.blt i st.length) && Nat.ble st.length r.2.length then some (r.1, restore hid st r.2) else none

/-- One operation; sl: in a region whose order is open, the place that is kept for what it makes. -/
def exec1 (P : Program) (M : Nat → Nat) (sl : Option Nat) (hid : List Nat) (call : CallF) (E : Env) (st : Store) (o : Oper) : Option (AV × Store) :=
  match resOp P o.op with
  | some (.prim r, xs) => if sl.isSome && !okQ r (xs.map (aval E)) then none else rop sl r (xs.map (aval E)) st
  | some (.call f, xs) => callH (if isPure (M f) (xs.map (aval E)) then [] else hid) call f (xs.map (aval E)) st
  | some (.clos, x :: xs) => match aval E x with
    | .fn (.func f) first cap => callH hid call f (first ++ xs.map (aval E) ++ cap) st
    | _ => none
  | _ => none

/-- base: none, where the order is the text's; else where the kept places begin. -/
def slotOf (P : Program) (ops : Array Oper) (base : Option Nat) (i : Nat) : Option Nat := base.map (· + rankA P ops i)

def stepA (P : Program) (M : Nat → Nat) (base : Option Nat) (call : CallF) (ops : Array Oper) (i : Nat) (S : Env × Store) : Option (Env × Store) :=
  match ops[i]? with
  | none => some S
  | some o => match wantedA ops S.1 o with
    | some true => (exec1 P M (slotOf P ops base i) (hidOf P ops base i) call S.1 S.2 o).map fun r => (S.1.put o.dst r.1, r.2)
    | some false => some (S.1.put o.dst undefA, S.2)
    | none => none

def runL (P : Program) (M : Nat → Nat) (base : Option Nat) (call : CallF) (ops : Array Oper) : List Nat → Env × Store → Option (Env × Store)
  | [], S => some S
  | i :: l, S => (stepA P M base call ops i S).bind (runL P M base call ops l)

def primKind : ROp → Nat
  | .box _ | .alloc .. | .mkSlice .. | .store _ | .append .. | .copy _ | .ustr _ => 3
  | .load _ | .ssl .. | .cbs | .ixs _ | .cvp | .cvu _ => 1
  | _ => 0

/-- 0: an operation neither looks at the store nor changes it; 1: it looks; 3: it changes it, where it says; 4: it may change it anywhere. -/
def kindOf (P : Program) (M : Nat → Nat) (o : Oper) : Nat :=
  match resOp P o.op with
  | some (.prim r, _) => primKind r
  | _ => 4

def blkOf : AV → List Nat
  | .ptr b _ _ => [b]
  | .osl b _ _ => [b]
  | .asl b _ _ _ => [b]
  | _ => []

/-- Where an operation looks, and where it writes (beside the place that is kept for it). -/
def fpOf (r : ROp) (vs : List AV) : List Nat × List Nat :=
  match r with
  | .load _ | .ssl .. | .cbs | .ixs _ | .cvp | .cvu _ => (blkOf (vs.getD 0 .unk), [])
  | .store _ | .ustr _ => ([], blkOf (vs.getD 0 .unk))
  | .append .. | .copy _ => (blkOf (vs.getD 1 .unk), blkOf (vs.getD 0 .unk))
  | _ => ([], [])

/-- Reads and writes; or: anywhere, but for some places. -/
abbrev FP := Sum (List Nat × List Nat) (List Nat)
abbrev fp0 : FP := .inl ([], [])

/-- The same of one that comes up in a state, with its kept place. -/
def fpS (P : Program) (M : Nat → Nat) (ops : Array Oper) (base : Option Nat) (i : Nat) (E : Env) (st : Store) : FP :=
  match ops[i]? with
  | none => fp0
  | some o => match wantedA ops E o with
    | some true => match resOp P o.op with
      | some (.prim r, xs) => .inl ((fpOf r (xs.map (aval E))).1, (if isAlloc r then (slotOf P ops base i).toList else []) ++ (fpOf r (xs.map (aval E))).2)
      | some (.call f, xs) => match M f with
        | 0 => .inr (hidOf P ops base i)
        | 1 => .inl (touchL (xs.map (aval E)) st, touchL (xs.map (aval E)) st)
        | _ => if AV.pure.pureL (xs.map (aval E)) then fp0 else .inr (hidOf P ops base i)
      | _ => .inr (hidOf P ops base i)
    | _ => fp0

def disj (a b : List Nat) : Bool := a.all fun x => !b.contains x

def inFp (a : List Nat × List Nat) (h : List Nat) : Bool := a.1.all h.contains && a.2.all h.contains

def okFp : FP → FP → Bool
  | .inl a, .inl b => disj a.2 b.1 && disj a.2 b.2 && disj b.2 a.1
  | .inr h, .inl b => inFp b h
  | .inl a, .inr h => inFp a h
  | .inr _, .inr _ => false

/-- What a load looks at; or what is in some places ahead of a call, and behind it. -/
abbrev LdI := Nat × Nat × Nat × Option Nat
abbrev RecI := List (Nat × Option Blk × Option Blk)
abbrev XP := Option (Sum LdI RecI)
abbrev ZP := FP × XP
abbrev z0 : ZP := (fp0, none)

def ldInfo (P : Program) (ops : Array Oper) (i : Nat) (E : Env) : Option LdI :=
  match ops[i]? with
  | none => none
  | some o => match wantedA ops E o with
    | some true => match resOp P o.op with
      | some (.prim (.load n), xs) => match xs.map (aval E) with
        | [.ptr b i off] => some (b, i, off, n)
        | _ => none
      | _ => none
    | _ => none

def recOf (K hid : List Nat) (st st2 : Store) : RecI := (K.filter fun b => !hid.contains b).map fun b => (b, st[b]?, st2[b]?)

def afterA (P : Program) (M : Nat → Nat) (base : Option Nat) (call : CallF) (ops : Array Oper) (i : Nat) (E : Env) (st : Store) : Store :=
  match ops[i]? with
  | none => st
  | some o => match exec1 P M (slotOf P ops base i) (hidOf P ops base i) call E st o with
    | some r => r.2
    | none => st

def fpX (P : Program) (M : Nat → Nat) (K : List Nat) (base : Option Nat) (call : CallF) (ops : Array Oper) (i : Nat) (E : Env) (st : Store) : XP :=
  match fpS P M ops base i E st with
  | .inl _ => (ldInfo P ops i E).map .inl
  | .inr hid => some (.inr (recOf K hid st (afterA P M base call ops i E st)))

def fpZ (P : Program) (M : Nat → Nat) (K : List Nat) (base : Option Nat) (call : CallF) (ops : Array Oper) (i : Nat) (E : Env) (st : Store) : ZP := (fpS P M ops base i E st, fpX P M K base call ops i E st)

/-- What is loaded from a block. -/
def ldAt (i off : Nat) (n : Option Nat) : Option Blk → Option AV
  | some (.row _ xs _) => (xs[i]?).bind fun v => ldc n v.cells off
  | _ => none

/-- What a load looks at is the same ahead of a call and behind it. -/
def stable (l : LdI) (r : RecI) : Bool := r.any fun q => Nat.beq q.1 l.1 && (match ldAt l.2.1 l.2.2.1 l.2.2.2 q.2.1, ldAt l.2.1 l.2.2.1 l.2.2.2 q.2.2 with
  | some v, some v' => eqAV v v'
  | _, _ => false)

def okX : XP → XP → Bool
  | some (.inl l), some (.inr r) => stable l r
  | some (.inr r), some (.inl l) => stable l r
  | _, _ => false

def okZ (a b : ZP) : Bool := okFp a.1 b.1 || okX a.2 b.2

/-- A run in the order of the text, with where each operation looks and writes. -/
def tabL (P : Program) (M : Nat → Nat) (K : List Nat) (base : Option Nat) (call : CallF) (ops : Array Oper) : List Nat → Env × Store → List ZP
  | [], _ => []
  | i :: l, S => fpZ P M K base call ops i S.1 S.2 :: (match stepA P M base call ops i S with | some S' => tabL P M K base call ops l S' | none => [])

/-- The blocks that are looked at by loads. -/
def ksOf (t : List ZP) : List Nat := t.filterMap fun z => match z.2 with
  | some (.inl l) => some l.1
  | _ => none

def okKinds (a b : Nat) : Bool := a == 0 || b == 0 || (a == 1 && b == 1)

/-- The pairs that are to be held against each other when the region is run; none: two meddle with each other. -/
def pairsOf (P : Program) (M : Nat → Nat) (ops : Array Oper) (mk : List Nat) (listed : Array Bool) (i : Nat) : Option (List (Nat × Nat)) :=
  match ops[i]? with
  | none => none
  | some oi => (List.range ops.size).foldr (fun j acc => acc.bind fun l =>
      if j == i || listed.getD j true then some l else match ops[j]? with
        | none => some l
        | some oj => if (mk.getD j 0).testBit i then some l
          else if oi.apart ops oj then
            if okKinds (kindOf P M oi) (kindOf P M oj) then some l else some ((i, j) :: l)
          else none) (some [])

def lexA (P : Program) (M : Nat → Nat) (ops : Array Oper) (mk : List Nat) : Nat → Nat → Array Bool → Option (List (Nat × Nat))
  | 0, _, listed => if (Region.ready .any ops listed).isEmpty then some [] else none
  | fuel + 1, k, listed => if (Region.ready .any ops listed).contains k then
      (pairsOf P M ops mk listed k).bind fun a => (lexA P M ops mk fuel (k + 1) (listed.setIfInBounds k true)).map fun b => a ++ b
    else none

/-- The pairs of a region whose order is open; none: it isn't run. -/
def chkOf (P : Program) (M : Nat → Nat) (ops : Array Oper) : Option (List (Nat × Nat)) :=
  if Region.noSelect ops then lexA P M ops (masks ops.toList []) ops.size 0 (Array.replicate ops.size false) else none

def chkOk (tab : List ZP) (l : List (Nat × Nat)) : Bool := l.all fun p => okZ (tab.getD p.1 z0) (tab.getD p.2 z0)

def runReg (P : Program) (M : Nat → Nat) (draw : Bool) (call : CallF) (ops : Array Oper) (E : Env) (st : Store) : Option (Env × Store) :=
  if draw then
    match chkOf P M ops with
    | none => none
    | some l =>
      if chkOk (tabL P M [] (some st.length) call ops (List.range ops.size) (E, st ++ List.replicate (rankA P ops ops.size) .fresh)) l ||
        chkOk (tabL P M (ksOf (tabL P M [] (some st.length) call ops (List.range ops.size) (E, st ++ List.replicate (rankA P ops ops.size) .fresh))) (some st.length) call ops (List.range ops.size) (E, st ++ List.replicate (rankA P ops ops.size) .fresh)) l then
        runL P M (some st.length) call ops (List.range ops.size) (E, st ++ List.replicate (rankA P ops ops.size) .fresh)
      else none
  else runL P M none call ops (List.range ops.size) (E, st)

inductive AX where
  | normal
  | exit (id : Nat)
  | goto (l : Nat)
  | ret
  deriving DecidableEq, Inhabited

def resV (P : Program) (E : Env) (st : Store) : ResultVar → Option AV
  | .tmp t => some (E t)
  | .cell a t => (layOf P t).bind fun l => (rop none (.load l) [E a] st).map (·.1)

def tupOf : List AV → AV
  | [v] => v
  | vs => .tup vs

def resA (P : Program) (fn : Func) (E : Env) (st : Store) : Option AV :=
  (fn.results.toList.mapM (resV P E st)).map tupOf

def entry (args : List AV) : Env := fun t => args.getD t undefA

/-- Every temporary that is written is one of so many. -/
def okCode (N : Nat) : Code → Bool
  | .region _ ops _ => ops.all fun o => match o.dst with | some d => d < N | none => true
  | .seq a b => okCode N a && okCode N b
  | .cond _ a b => okCode N a && okCode N b
  | .block _ c => okCode N c
  | .loop c => okCode N c
  | _ => true

mutual
def runC (P : Program) (M : Nat → Nat) : Nat → Code → Env → Store → Option (AX × Env × Store)
  | 0, _, _, _ => none
  | n + 1, c, E, st =>
    match c with
    | .skip | .label _ => some (.normal, E, st)
    | .region _ ops draw =>
      (runReg P M draw (callN P M n) ops E st).map fun S => (.normal, S.1, S.2)
    | .seq a b => match runC P M n a E st with
      | some (.normal, E, st) => runC P M n b E st
      | r => r
    | .cond c a b => match aval E c with
      | .bool true => runC P M n a E st
      | .bool false => runC P M n b E st
      | _ => none
    | .block id c => match runC P M n c E st with
      | some (.exit j, E, st) => if j = id then some (.normal, E, st) else some (.exit j, E, st)
      | r => r
    | .loop c => match runC P M n c E st with
      | some (.normal, E, st) => runC P M n (.loop c) E st
      | r => r
    | .exit id => some (.exit id, E, st)
    | .ret => some (.ret, E, st)
    | _ => none
def callN (P : Program) (M : Nat → Nat) : Nat → Nat → List AV → Store → Option (AV × Store)
  | 0, _, _, _ => none
  | n + 1, f, args, st =>
    match P.funcs[f]? with
    | none => none
    | some fn =>
      if fn.name == "runtime.NumGoroutine" then none else
      match fn.body with
      | none => none
      | some c =>
        if !okCode fn.ntmps c then none else
        if isPure (M f) args then
          (mapS (erase eraseFuel) args st).bind fun a =>
          match runC P M n c (entry a.1) [] with
          | some (x, E, st') => if x = .normal ∨ x = .ret then
              (resA P fn E st').bind fun r => (erase eraseFuel r st').map fun r => (r.1, a.2) else none
          | none => none
        else
          match runC P M n c (entry args) st with
          | some (x, E, st') => if x = .normal ∨ x = .ret then (resA P fn E st').map fun r => (r, st') else none
          | none => none
end

end Go.Proofs.Ago
