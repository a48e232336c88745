/- The operations over abstract values and the abstract heap, what of the model's operations they stand for. Conditions: none. -/
import Derived.Test.YtooaiddfokbffaaE1
set_option linter.unusedVariables false
set_option linter.unusedSimpArgs false
namespace Go.Proofs.Ytooaiddfokbffaa.E
open Go

inductive AArg where
  | t (n : Nat)
  | c (x : AV)

def AArg.ev (tm : Nat → AV) : AArg → AV
  | .t n => tm n
  | .c x => x

inductive LK where
  | str | slice | map

inductive FK where
  | int | bool | str

inductive NKind where
  | ptr | slice | map | func | iface

inductive AOp where
  | move (x : AArg)
  | pick (c a b : AArg)
  | alloc (z : List AV)
  | box (x : AArg)
  | build (z : List AV) (parts : List (Nat × Nat × AArg))
  | buildS (es n : Nat) (z : List AV) (parts : List (Nat × Nat × AArg))
  | load (agg : Bool) (n : Nat) (a : AArg)
  | store (n : Nat) (a x : AArg)
  | nilchk (x : AArg)
  | ibin (op : BinOp) (x y : AArg)
  | sbin (op : BinOp) (x y : AArg)
  | bbin (neq : Bool) (x y : AArg)
  | nbin (neq : Bool) (k : NKind) (x : AArg)
  | ebin (neq : Bool) (ks : List FK) (x y : AArg)
  | not (x : AArg)
  | neg (x : AArg)
  | conv (k : IntKind) (x : AArg)
  | fld (off : Nat) (x : AArg)
  | idx (es : Nat) (x i : AArg)
  | idxA (len es : Nat) (x i : AArg)
  | part (agg : Bool) (off n : Nat) (x : AArg)
  | aidx (agg : Bool) (len n : Nat) (x i : AArg)
  | sidx (x i : AArg)
  | slice (es : Nat) (x : AArg) (lo hi mx : Option AArg)
  | sslice (x : AArg) (lo hi : Option AArg)
  | mks (z : List AV) (bytes : Nat) (l c : AArg)
  | ext (x : AArg) (i : Nat)
  | func (f : Fn) (first captured : List AArg)
  | len (k : LK) (x : AArg)
  | append (es bytes : Nat) (s x : AArg)
  | mm (isMax : Bool) (x y : AArg)

/-! ### What they do -/
def setL : List AV → Nat → List AV → List AV
  | l, _, [] => l
  | l, i, x :: xs => setL (l.set i x) (i + 1) xs

def aload (H : AHeap) (n : Nat) : AV → Option (List AV)
  | .ptr b off => match H.get b with
    | some (.cells l) => if off + n ≤ l.length then some ((l.drop off).take n) else none
    | _ => none
  | .rop cells off => if off + n ≤ cells.length then some ((cells.drop off).take n) else none
  | _ => none

def apack (agg : Bool) (cs : List AV) : Option AV :=
  if agg then some (.agg cs) else match cs with
    | [x] => some x
    | _ => none

def astore (H : AHeap) (n : Nat) (a x : AV) : Option AHeap :=
  match a with
  | .ptr b off => match H.get b with
    | some (.cells l) => if x.acells.length = n ∧ off + n ≤ l.length ∧ x.acells.all AV.one then some (H.set b (.cells (setL l off x.acells))) else none
    | _ => none
  | _ => none

def afill : List AV → List (Nat × Nat × AV) → Option (List AV)
  | cs, [] => some cs
  | cs, (off, n, x) :: rest => if x.acells.length = n ∧ off + n ≤ cs.length then afill (setL cs off x.acells) rest else none

def ibin : BinOp → IntKind → Int → Int → Option Value
  | .add, k, a, b => some (.int k (k.wrap (a + b)))
  | .sub, k, a, b => some (.int k (k.wrap (a - b)))
  | .mul, k, a, b => some (.int k (k.wrap (a * b)))
  | .quo, k, a, b => if b = 0 then none else some (.int k (k.wrap (a.tdiv b)))
  | .rem, k, a, b => if b = 0 then none else some (.int k (a.tmod b))
  | .eql, _, a, b => some (.bool (a == b))
  | .neq, _, a, b => some (.bool (a != b))
  | .lss, _, a, b => some (.bool (a < b))
  | .leq, _, a, b => some (.bool (a ≤ b))
  | .gtr, _, a, b => some (.bool (a > b))
  | .geq, _, a, b => some (.bool (a ≥ b))
  | .and, k, a, b => some (.int k (bits .and k a b))
  | .or, k, a, b => some (.int k (bits .or k a b))
  | .xor, k, a, b => some (.int k (bits .xor k a b))
  | .andNot, k, a, b => some (.int k (bits .andNot k a b))
  | _, _, _, _ => none

def ishift : BinOp → IntKind → Int → Int → Option Value
  | .shl, k, a, b => if b < 0 then none else some (.int k (k.wrap (a * 2 ^ (min b.toNat k.bits))))
  | .shr, k, a, b => if b < 0 then none else some (.int k (a.fdiv (2 ^ (min b.toNat k.bits))))
  | _, _, _, _ => none

def isShift : BinOp → Bool
  | .shl | .shr => true
  | _ => false

def bsLe (a b : ByteArray) : List UInt8 × List UInt8 := (a.data.toList, b.data.toList)

def sbin : BinOp → ByteArray → ByteArray → Option Value
  | .add, a, b => if a.size + b.size ≤ 9223372036854775807 then some (.string (a ++ b)) else none
  | .eql, a, b => some (.bool (a.data.toList == b.data.toList))
  | .neq, a, b => some (.bool !(a.data.toList == b.data.toList))
  | .lss, a, b => some (.bool (Op.bytesLess a.data.toList b.data.toList))
  | .leq, a, b => some (.bool (Op.bytesLess a.data.toList b.data.toList || a.data.toList == b.data.toList))
  | .gtr, a, b => some (.bool !(Op.bytesLess a.data.toList b.data.toList || a.data.toList == b.data.toList))
  | .geq, a, b => some (.bool !(Op.bytesLess a.data.toList b.data.toList))
  | _, _, _ => none

/-- Is a value nil? -/
def anil : NKind → AV → Option Bool
  | .ptr, .v (.pointer none) => some true
  | .ptr, .ptr .. => some false
  | .ptr, .rop .. => some false
  | .slice, .v (.slice none _ _) => some true
  | .slice, .slc .. => some false
  | .slice, .ro .. => some false
  | .map, .v (.map none) => some true
  | .map, .mp _ => some false
  | .func, .v .nilFunc => some true
  | .func, .fn .. => some false
  | .iface, .v .nilIface => some true
  | .iface, .ifc .. => some false
  | _, _ => none

/-- Are two rows of plain cells one? -/
def aeqs : List FK → List AV → List AV → Option Bool
  | [], [], [] => some true
  | .int :: ks, .v (.int k a) :: xs, .v (.int k' b) :: ys => if k = k' then (aeqs ks xs ys).map fun r => a == b && r else none
  | .bool :: ks, .v (.bool a) :: xs, .v (.bool b) :: ys => (aeqs ks xs ys).map fun r => a == b && r
  | .str :: ks, .v (.string a) :: xs, .v (.string b) :: ys => (aeqs ks xs ys).map fun r => a.data.toList == b.data.toList && r
  | _, _, _ => none

def anat : Option AV → Option (Option Nat)
  | none => some none
  | some (.v (.int _ n)) => if 0 ≤ n then some (some n.toNat) else none
  | _ => none

def acut (L : Nat) (ex : Bool) (len : Nat) (lo hi mx : Option Nat) : Option (Nat × Nat × Nat × Bool) :=
  let l := lo.getD 0
  let h := hi.getD len
  match mx, hi with
  | some m, some _ => if l ≤ h ∧ h ≤ m ∧ m ≤ L then some (l, h, m - l, true) else none
  | some _, none => none
  | none, _ => if l ≤ h ∧ h ≤ L then some (l, h, L - l, ex) else none

def aslice (es : Nat) (x : AV) (lo hi mx : Option Nat) : Option AV :=
  match x with
  | .v (.slice none 0 0) => if lo.getD 0 = 0 ∧ hi.getD 0 = 0 ∧ mx.getD 0 = 0 ∧ (mx.isSome → hi.isSome) then some x else none
  | .slc b off es' len lo' ex =>
    match acut (max len lo') ex len lo hi mx with
    | some (l, h, m, ex') => if es' = es then (if 0 < m then some (.slc b (off + l * es) es (h - l) m ex') else some (.ro 0 0 ex' [])) else none
    | none => none
  | .ro len lo' ex cells =>
    match acut (max len lo') ex len lo hi mx with
    | some (l, h, m, ex') => if 0 < m then some (.ro (h - l) m ex' (cells.drop (l * es))) else some (.ro 0 0 ex' [])
    | none => none
  | _ => none

def asrc (H : AHeap) (es : Nat) : AV → Option (Nat × List AV)
  | .v (.slice none 0 0) => some (0, [])
  | .ro len _ _ cells => if len * es ≤ cells.length then some (len, cells.take (len * es)) else none
  | .slc b off es' len _ _ => match H.get b with
    | some (.cells l) => if es' = es ∧ off + len * es ≤ l.length then some (len, (l.drop off).take (len * es)) else none
    | _ => none
  | _ => none

def aappend (H : AHeap) (es bytes : Nat) (s x : AV) : Option (AV × AHeap) :=
  match asrc H es x with
  | none => none
  | some (n, new) =>
    if new.all AV.one = false ∨ es = 0 then none else
    match s with
    | .v (.slice none 0 0) => if n = 0 then some (s, H) else
        if n * bytes ≤ 140737488355328 ∧ n ≤ 9223372036854775807 then some (.slc H.next 0 es n n false, H.new (.cells new)) else none
    | .ro len lo ex cells =>
        if ex = true ∧ lo < len + n ∧ len * es ≤ cells.length ∧ (len + n) * bytes ≤ 140737488355328 ∧ len + n ≤ 9223372036854775807 then
          some (.slc H.next 0 es (len + n) (len + n) false, H.new (.cells (cells.take (len * es) ++ new)))
        else if n = 0 then some (s, H) else none
    | .slc b off es' len lo ex => match H.get b with
      | some (.cells l) => if es' = es ∧ off + len * es ≤ l.length then
          if n = 0 then some (s, H)
          else if len + n ≤ lo then
            (if off + (len + n) * es ≤ l.length then some (.slc b off es (len + n) lo ex, H.set b (.cells (setL l (off + len * es) new))) else none)
          else if (len + n) * bytes ≤ 140737488355328 ∧ len + n ≤ 9223372036854775807 then
            if ex = true then some (.slc H.next 0 es (len + n) (len + n) false, H.new (.cells ((l.drop off).take (len * es) ++ new)))
            else if off = 0 ∧ l.length = len * es then some (.slc H.next 0 es (len + n) (len + n) false, (H.kill b).new (.cells (l ++ new)))
            else none
          else none
        else none
      | _ => none
    | _ => none

def amm (isMax : Bool) : AV → AV → Option AV
  | .v (.int k x), .v (.int _ y) => some (.v (.int k (if isMax then (if y > x then y else x) else (if y < x then y else x))))
  | _, _ => none

def alen (H : AHeap) : LK → AV → Option Nat
  | .str, .v (.string s) => some s.size
  | .slice, .v (.slice none n _) => if n = 0 then some 0 else none
  | .slice, .slc _ _ _ n _ _ => some n
  | .slice, .ro n _ _ _ => some n
  | .map, .mp b => match H.get b with
    | some (.map es _) => some es.length
    | _ => none
  | .map, .v (.map none) => some 0
  | _, _ => none

def amake (es : List AV) (bytes : Nat) (H : AHeap) : AV → AV → Option (AV × AHeap)
  | .v (.int _ l), .v (.int _ c) => if 0 ≤ l ∧ l ≤ c ∧ (bytes : Int) * c ≤ 281474976710656 ∧ c ≤ 9223372036854775807 ∧ 0 < es.length then
      some (.slc H.next 0 es.length l.toNat c.toNat true, H.new (.cells (List.replicate c.toNat es).flatten)) else none
  | _, _ => none

def afld (off : Nat) : AV → Option AV
  | .ptr b o => some (.ptr b (o + off))
  | .rop c o => some (.rop c (o + off))
  | _ => none

def aix (es : Nat) (n : Int) : AV → Option AV
  | .slc b off _ len _ _ => if 0 ≤ n ∧ n < len then some (.ptr b (off + n.toNat * es)) else none
  | .ro len _ _ cells => if 0 ≤ n ∧ n < len then some (.rop cells (n.toNat * es)) else none
  | _ => none

def aixA (len es : Nat) (n : Int) : AV → Option AV
  | .ptr b off => if 0 ≤ n ∧ n < len then some (.ptr b (off + n.toNat * es)) else none
  | .rop cells off => if 0 ≤ n ∧ n < len then some (.rop cells (off + n.toNat * es)) else none
  | _ => none

def aop (tm : Nat → AV) (H : AHeap) : AOp → Option (AV × AHeap)
  | .move x => some (x.ev tm, H)
  | .pick c a b => match c.ev tm with
    | .v (.bool t) => some (if t then a.ev tm else b.ev tm, H)
    | _ => none
  | .alloc z => some (.ptr H.next 0, H.new (.cells z))
  | .box x => some (.ptr H.next 0, H.new (.cells (x.ev tm).acells))
  | .build z parts => (afill z (parts.map fun p => (p.1, p.2.1, p.2.2.ev tm))).map fun cs => (.agg cs, H)
  | .buildS es n z parts => (afill z (parts.map fun p => (p.1, p.2.1, p.2.2.ev tm))).map fun cs => (.slc H.next 0 es n n true, H.new (.cells cs))
  | .load agg n a => ((aload H n (a.ev tm)).bind (apack agg)).map fun x => (x, H)
  | .store n a x => (astore H n (a.ev tm) (x.ev tm)).map fun H' => (uv, H')
  | .nilchk x => match x.ev tm with
    | .ptr b o => some (.ptr b o, H)
    | .rop c o => some (.rop c o, H)
    | .fn (.func f) a b => some (.fn (.func f) a b, H)
    | .ifc t y => some (.ifc t y, H)
    | _ => none
  | .ibin op x y => match x.ev tm, y.ev tm with
    | .v (.int k a), .v (.int k' b) => if isShift op then (ishift op k a b).map fun r => (.v r, H) else if k = k' then (ibin op k a b).map fun r => (.v r, H) else none
    | _, _ => none
  | .sbin op x y => match x.ev tm, y.ev tm with
    | .v (.string a), .v (.string b) => (sbin op a b).map fun r => (.v r, H)
    | _, _ => none
  | .bbin neq x y => match x.ev tm, y.ev tm with
    | .v (.bool a), .v (.bool b) => some (.v (.bool (if neq then !(a == b) else a == b)), H)
    | _, _ => none
  | .nbin neq k x => (anil k (x.ev tm)).map fun r => (.v (.bool (if neq then !r else r)), H)
  | .ebin neq ks x y => match x.ev tm, y.ev tm with
    | .agg a, .agg b => (aeqs ks a b).map fun r => (.v (.bool (if neq then !r else r)), H)
    | _, _ => none
  | .not x => match x.ev tm with
    | .v (.bool a) => some (.v (.bool !a), H)
    | _ => none
  | .neg x => match x.ev tm with
    | .v (.int k a) => some (.v (.int k (k.wrap (0 - a))), H)
    | _ => none
  | .conv k x => match x.ev tm with
    | .v (.int _ a) => some (.v (.int k (k.wrap a)), H)
    | _ => none
  | .fld off x => (afld off (x.ev tm)).map fun y => (y, H)
  | .idx es x i => match i.ev tm with
    | .v (.int _ n) => (aix es n (x.ev tm)).map fun y => (y, H)
    | _ => none
  | .idxA len es x i => match i.ev tm with
    | .v (.int _ n) => (aixA len es n (x.ev tm)).map fun y => (y, H)
    | _ => none
  | .part agg off n x => match x.ev tm with
    | .agg cs => if off + n ≤ cs.length then (apack agg ((cs.drop off).take n)).map fun y => (y, H) else none
    | _ => none
  | .aidx agg len n x i => match x.ev tm, i.ev tm with
    | .agg cs, .v (.int _ j) => if 0 ≤ j ∧ j < len ∧ j.toNat * n + n ≤ cs.length then (apack agg ((cs.drop (j.toNat * n)).take n)).map fun y => (y, H) else none
    | _, _ => none
  | .sidx x i => match x.ev tm, i.ev tm with
    | .v (.string s), .v (.int _ j) => if 0 ≤ j then (s.data.toList[j.toNat]?).map fun b => (.v (.int .u8 b.toNat), H) else none
    | _, _ => none
  | .slice es x lo hi mx => match anat (lo.map (·.ev tm)), anat (hi.map (·.ev tm)), anat (mx.map (·.ev tm)) with
    | some l, some h, some m => (aslice es (x.ev tm) l h m).map fun y => (y, H)
    | _, _, _ => none
  | .sslice x lo hi => match x.ev tm, anat (lo.map (·.ev tm)), anat (hi.map (·.ev tm)) with
    | .v (.string s), some l, some h => if l.getD 0 ≤ h.getD s.size ∧ h.getD s.size ≤ s.size then some (.v (.string (s.extract (l.getD 0) (h.getD s.size))), H) else none
    | _, _, _ => none
  | .mks z bytes l c => amake z bytes H (l.ev tm) (c.ev tm)
  | .ext x i => match x.ev tm with
    | .tup vs => (vs[i]?).map fun y => (y, H)
    | _ => none
  | .func f first captured => some (.fn f (first.map (·.ev tm)) (captured.map (·.ev tm)), H)
  | .len k x => (alen H k (x.ev tm)).map fun (n : Nat) => (AV.v (.int .i64 (n : Int)), H)
  | .append es bytes s x => aappend H es bytes (s.ev tm) (x.ev tm)
  | .mm isMax x y => (amm isMax (x.ev tm) (y.ev tm)).map fun r => (r, H)

/-! ### What of the model's operations they stand for -/
def cval (x : Value) : Option AV :=
  match x with
  | .agg cs => if cs.all notAgg then some (.agg (cs.toList.map .v)) else none
  | .func f fs cs => if fs.size = 0 ∧ cs.size = 0 then some (.fn f [] []) else none
  | x => some (.v x)

def carg : Operand → Option AArg
  | .tmp t => some (.t t)
  | .const v => (cval v).map .c
  | .func f => some (.c (.fn (.func f) [] []))
  | .global g => some (.c (.v (.pointer (some ⟨g, 0, none⟩))))

def cargO : Option Operand → Option (Option AArg)
  | none => some none
  | some x => (carg x).map some

def tSize (P : Program) (t : TypeId) : Option Nat := (P.info? t).map (·.size)
def tZero (P : Program) (t : TypeId) : Option (List AV) := ((P.info? t).bind (·.zero)).bind fun z => (cval z).map (·.acells)
def aggD : TypeDesc → Bool
  | .struct _ | .array _ _ => true
  | _ => false
def tAgg (P : Program) (t : TypeId) : Option Bool := (P.underlying t).map aggD

/-- Kinds of types that have a nil, and their nil. -/
def nilD : TypeDesc → Operand → Option NKind
  | .pointer _, .const (.pointer none) => some .ptr
  | .slice _, .const (.slice none _ _) => some .slice
  | .map _ _, .const (.map none) => some .map
  | .func _ _ _, .const .nilFunc => some .func
  | .interface _, .const .nilIface => some .iface
  | _, _ => none

end Go.Proofs.Ytooaiddfokbffaa.E
