/- The shadow machine: values, heap, operations (plain Lean; no program in sight). The shadow machine against the model: what a shadow value stands for, and when a shadow heap stands for a world. From the model's code to the shadow machine's. -/
import GoSem.Core.Ast
import GoSem.Core.View
import GoSem.Core.Code
import GoSem.Op.String
import GoSem.Op.IntBits
import Derived.OwnWalk
import Derived.Laws.IdiomCopy
import Derived.Laws.MakeOwn
import Derived.Laws.BytesArg
import Derived.ArgAppend
import Derived.Orders
import Derived.Scope
set_option linter.unusedVariables false
set_option linter.unusedSimpArgs false
namespace Go.Sh
structure Sl where
 base : Option (Nat × Nat)
 len : Nat
 cap : Option Nat
 alt : Nat
inductive SV where
 | junk
 | undef
 | bool (b : Bool)
 | int (k : IntKind) (n : Int)
 | str (s : List UInt8)
 | slice (s : Sl)
 | ptr (p : Nat × Nat)
 | nilp
 | fn (f : Nat) (bound caps : List SV)
 | nilf
 | agg (cs : List SV)
 | tuple (vs : List SV)
 | box (cs : List SV)
 | lptr (o : Nat)
def nilSl : Sl := ⟨none, 0, none, 0⟩
structure Row where
 kind : Nat
 esz : Nat
 ver : Nat
 cells : List SV
inductive Tr where
 | nil
 | node (v : Option Row) (l r : Tr)
def Tr.get : Tr -> Nat -> Option Row
 | .nil, _ => none
 | .node v l r, n => match n with
  | 0 => v
  | m + 1 => bif Nat.beq (m % 2) 0 then l.get (m / 2) else r.get (m / 2)
def Tr.val : Tr -> Option Row
 | .nil => none
 | .node v _ _ => v
def Tr.left : Tr -> Tr
 | .nil => .nil
 | .node _ l _ => l
def Tr.right : Tr -> Tr
 | .nil => .nil
 | .node _ _ r => r
def Tr.setF (row : Row) : Nat -> Tr -> Nat -> Tr
 | 0, t, _ => t
 | f + 1, t, n => match n with
  | 0 => .node (some row) t.left t.right
  | m + 1 => bif Nat.beq (m % 2) 0 then .node t.val (Tr.setF row f t.left (m / 2)) t.right else .node t.val t.left (Tr.setF row f t.right (m / 2))
structure Heap where
 size : Nat
 rows : Tr
def Heap.get (H : Heap) (r : Nat) : Option Row := bif Nat.blt r H.size then H.rows.get r else none
def Heap.push (H : Heap) (row : Row) : Heap := ⟨H.size + 1, H.rows.setF row (H.size + 1) H.size⟩
def Heap.set (H : Heap) (r : Nat) (row : Row) : Heap := ⟨H.size, H.rows.setF row (r + 1) r⟩
def SV.cells : SV -> List SV
 | .agg cs => cs
 | v => [v]
def SV.good : SV -> Bool
 | .junk => false
 | .box _ => false
 | .lptr _ => false
 | _ => true
def SV.flat : SV -> Bool
 | .bool _ | .int _ _ | .str _ | .slice _ | .ptr _ | .nilp | .fn _ _ _ | .nilf => true
 | _ => false
def SV.item : SV -> Bool
 | .agg _ => true
 | v => v.flat
def cut (cs : List SV) (o n : Nat) : Option (List SV) :=
 bif Nat.ble (o + n) cs.length then some ((cs.drop o).take n) else none
def splice (cs : List SV) (o : Nat) (vs : List SV) : Option (List SV) :=
 bif Nat.ble (o + vs.length) cs.length then some (cs.take o ++ (vs ++ cs.drop (o + vs.length))) else none
def shaped (agg : Bool) (cs : List SV) : Option SV :=
 match agg, cs with
 | true, cs => some (.agg cs)
 | false, [v] => some v
 | false, _ => none
def Heap.read (H : Heap) (r o n : Nat) : Option (List SV) :=
 match H.get r with
 | some row => bif Nat.beq row.kind 0 then none else cut row.cells o n
 | none => none
def Heap.write (H : Heap) (r o : Nat) (vs : List SV) : Option Heap :=
 match H.get r with
 | some row => bif Nat.beq row.kind 2 then (splice row.cells o vs).map fun cs => H.set r { row with ver := row.ver + 1, cells := cs } else none
 | none => none
def Heap.kill (H : Heap) (r : Nat) (row : Row) : Heap := H.set r { row with kind := 0, ver := row.ver + 1 }
def Heap.ver (H : Heap) (r : Nat) : Option Nat := (H.get r).map (·.ver)
def Heap.elems (H : Heap) (sz : Nat) (s : Sl) : Option (List SV) :=
 bif Nat.beq s.len 0 then some [] else
 match s.base with
 | none => none
 | some (r, o) => H.read r o (s.len * sz)
def wrapB (k : IntKind) (n : Int) : SV := .int k (k.wrap n)
def bitsOp (op : BinOp) (k : IntKind) (x y : Int) : Option SV :=
 let a := BitVec.ofInt k.bits x
 let b := BitVec.ofInt k.bits y
 match op with
 | .and => some (wrapB k (a &&& b).toNat)
 | .or => some (wrapB k (a ||| b).toNat)
 | .xor => some (wrapB k (a ^^^ b).toNat)
 | .andNot => some (wrapB k (a &&& ~~~b).toNat)
 | _ => none
def intOp (op : BinOp) (k : IntKind) (x y : Int) : Option SV :=
 match op with
 | .add => some (wrapB k (x + y))
 | .sub => some (wrapB k (x - y))
 | .mul => some (wrapB k (x * y))
 | .quo => if y = 0 then none else some (wrapB k (x.tdiv y))
 | .rem => if y = 0 then none else some (.int k (x.tmod y))
 | .eql => some (.bool (x == y))
 | .neq => some (.bool (x != y))
 | .lss => some (.bool (decide (x < y)))
 | .leq => some (.bool (decide (x <= y)))
 | .gtr => some (.bool (decide (x > y)))
 | .geq => some (.bool (decide (x >= y)))
 | .shl => none
 | .shr => none
 | _ => bitsOp op k x y
def shiftOp (op : BinOp) (k : IntKind) (x y : Int) : Option SV :=
 if y < 0 then none else
 match op with
 | .shl => some (wrapB k (x * 2 ^ min y.toNat k.bits))
 | .shr => some (.int k (x.fdiv (2 ^ min y.toNat k.bits)))
 | _ => none
def strOp (op : BinOp) (x y : List UInt8) : Option SV :=
 match op with
 | .add => bif Nat.ble (x.length + y.length) 4611686018427387904 then some (.str (x ++ y)) else none
 | .eql => some (.bool (x == y))
 | .neq => some (.bool (!(x == y)))
 | .lss => some (.bool (Op.bytesLess x y))
 | .leq => some (.bool (Op.bytesLess x y || x == y))
 | .gtr => some (.bool (!(Op.bytesLess x y || x == y)))
 | .geq => some (.bool (!Op.bytesLess x y))
 | _ => none
def kindEq : IntKind -> IntKind -> Bool
 | .i8, .i8 | .i16, .i16 | .i32, .i32 | .i64, .i64 | .u8, .u8 | .u16, .u16 | .u32, .u32 | .u64, .u64 => true
 | _, _ => false
def binOp (op : BinOp) (x y : SV) : Option SV :=
 match x, y with
 | .int k a, .int k' b =>
  match op with
  | .shl => shiftOp .shl k a b
  | .shr => shiftOp .shr k a b
  | op => bif kindEq k k' then intOp op k a b else none
 | .str a, .str b => strOp op a b
 | _, _ => none
def binB (op : BinOp) (x y : SV) : Option SV :=
 match x, y with
 | .bool a, .bool b => match op with | .eql => some (.bool (a == b)) | .neq => some (.bool (!(a == b))) | _ => none
 | _, _ => none
def nilEq (s t : Sl) : Option Bool :=
 match s.base, t.base with
 | none, _ => some t.base.isNone
 | _, none => some s.base.isNone
 | _, _ => none
def binS (op : BinOp) (x y : SV) : Option SV :=
 match x, y with
 | .slice s, .slice t =>
  match op with
  | .eql => (nilEq s t).map .bool
  | .neq => (nilEq s t).map fun b => .bool (!b)
  | _ => none
 | _, _ => none
def unOp (op : UnOp) (x : SV) : Option SV :=
 match op, x with
 | .neg, .int k n => some (wrapB k (0 - n))
 | .xor, .int k n => bitsOp .xor k (if k.signed then -1 else k.max) n
 | .not, .bool b => some (.bool (!b))
 | _, _ => none
def fillS (zero : List SV) : List (Nat × Nat × SV) -> Option (List SV)
 | [] => some zero
 | (off, size, v) :: rest =>
  bif v.item && Nat.beq v.cells.length size then
   match splice zero off v.cells with
   | some cs => fillS cs rest
   | none => none
  else none
def maxFrom (k : IntKind) (a : Int) : List SV -> Option SV
 | [] => some (.int k a)
 | .int _ b :: rest => maxFrom k (if b > a then b else a) rest
 | _ :: _ => none
def minFrom (k : IntKind) (a : Int) : List SV -> Option SV
 | [] => some (.int k a)
 | .int _ b :: rest => minFrom k (if b < a then b else a) rest
 | _ :: _ => none
def maxI : List SV -> Option SV
 | .int k a :: rest => maxFrom k a rest
 | _ => none
def minI : List SV -> Option SV
 | .int k a :: rest => minFrom k a rest
 | _ => none
inductive PK where
 | move
 | pick
 | bin (op : BinOp)
 | binB (op : BinOp)
 | binS (op : BinOp)
 | un (op : UnOp)
 | conv (k : IntKind)
 | len
 | slen
 | ext (i : Nat)
 | idx (sz : Nat)
 | pidx (len sz : Nat)
 | fld (off : Nat)
 | fieldv (off n : Nat) (agg : Bool)
 | indexv (len sz : Nat) (agg : Bool)
 | build (zero : List SV) (places : List (Nat × Nat))
 | stridx
 | strcut (lo hi : Bool)
 | mkfn (f nfirst : Nat)
 | max
 | min
 | lload (off n : Nat) (agg : Bool)
 | lloadp (n : Nat) (agg : Bool)
 | lfld (off : Nat)
 | lfldp (off : Nat)
 | lidx (len sz : Nat)
 | lidxp (len sz : Nat)
 | nilchk
def listIdx (l : List SV) (i : Nat) : Option SV := l[i]?
def opP (k : PK) (xs : List SV) : Option SV :=
 match k, xs with
 | .move, [x] => some x
 | .pick, [c, x, y] => match c with | .bool true => some x | .bool false => some y | _ => none
 | .bin op, [x, y] => binOp op x y
 | .binB op, [x, y] => binB op x y
 | .binS op, [x, y] => binS op x y
 | .un op, [x] => unOp op x
 | .conv k, [.int _ n] => some (wrapB k n)
 | .len, [.slice s] => some (.int .i64 s.len)
 | .slen, [.str s] => some (.int .i64 s.length)
 | .ext i, [.tuple vs] => listIdx vs i
 | .idx sz, [.slice s, .int _ i] =>
  if 0 <= i /\ i < s.len then match s.base with | some p => some (.ptr (p.1, p.2 + i.toNat * sz)) | none => none else none
 | .pidx len sz, [.ptr p, .int _ i] => if 0 <= i /\ i < len then some (.ptr (p.1, p.2 + i.toNat * sz)) else none
 | .fld off, [.ptr p] => some (.ptr (p.1, p.2 + off))
 | .fieldv off n agg, [.agg cs] => (cut cs off n).bind (shaped agg)
 | .indexv len sz agg, [.agg cs, .int _ i] => if 0 <= i /\ i < len then (cut cs (i.toNat * sz) sz).bind (shaped agg) else none
 | .build zero places, xs => bif Nat.beq places.length xs.length then (fillS zero ((places.zip xs).map fun p => (p.1.1, p.1.2, p.2))).map .agg else none
 | .stridx, [.str s, .int _ i] => if 0 <= i then match s[i.toNat]? with | some b => some (.int .u8 b.toNat) | none => none else none
 | .strcut true true, [.str s, .int _ a, .int _ b] => if 0 <= b /\ b <= s.length /\ 0 <= a /\ a <= b then some (.str ((s.take b.toNat).drop a.toNat)) else none
 | .strcut true false, [.str s, .int _ a] => if 0 <= a /\ a <= s.length then some (.str (s.drop a.toNat)) else none
 | .strcut false true, [.str s, .int _ b] => if 0 <= b /\ b <= s.length then some (.str (s.take b.toNat)) else none
 | .mkfn f nfirst, xs => bif xs.all SV.good then some (.fn f (xs.take nfirst) (xs.drop nfirst)) else none
 | .max, xs => maxI xs
 | .min, xs => minI xs
 | .lload off n agg, [.box cs] => (cut cs off n).bind (shaped agg)
 | .lloadp n agg, [.box cs, .lptr o] => (cut cs o n).bind (shaped agg)
 | .lfld off, [.box _] => some (.lptr off)
 | .lfldp off, [.lptr o] => some (.lptr (o + off))
 | .lidx len sz, [.box _, .int _ i] => if 0 <= i /\ i < len then some (.lptr (i.toNat * sz)) else none
 | .lidxp len sz, [.lptr o, .int _ i] => if 0 <= i /\ i < len then some (.lptr (o + i.toNat * sz)) else none
 | .nilchk, [.ptr p] => some (.ptr p)
 | .nilchk, [.fn f b c] => some (.fn f b c)
 | _, _ => none
inductive BK where
 | alloc (zero : List SV)
 | box
 | store (off n : Nat)
 | storep (n : Nat)
def opB (k : BK) (xs : List SV) : Option (List SV) :=
 match k, xs with
 | .alloc zero, [] => some zero
 | .box, [x] => bif x.item then some x.cells else none
 | .store off n, [.box cs, x] => bif x.item && Nat.beq x.cells.length n then splice cs off x.cells else none
 | .storep n, [.box cs, .lptr o, x] => bif x.item && Nat.beq x.cells.length n then splice cs o x.cells else none
 | _, _ => none
inductive RK where
 | load (n : Nat) (agg : Bool)
 | slice (sz : Nat) (lo hi mx : Bool)
 | str
def capOf (H : Heap) (sz : Nat) (s : Sl) : Option Nat :=
 match s.cap with
 | some c => some c
 | none => match s.base with
  | none => some 0
  | some (r, o) => match H.get r with
   | some row => bif Nat.beq row.kind 0 || !Nat.beq row.esz sz then none else some ((row.cells.length - o) / sz)
   | none => none
def fitsCap (H : Heap) (sz : Nat) (s : Sl) (m : Int) : Bool :=
 decide (m <= s.len) || (match capOf H sz s with | some c => decide (m <= c) | none => false)
def subSl (sz : Nat) (s : Sl) (a n : Nat) (cap : Option Nat) : Sl :=
 match a with
 | 0 => { s with len := n, cap := cap }
 | a + 1 => match s.base with
  | none => { s with len := n, cap := cap }
  | some p => ⟨some (p.1, p.2 + (a + 1) * sz), n, cap, p.2⟩
def eszOk (H : Heap) (sz : Nat) (s : Sl) (a : Int) : Bool :=
 decide (a = 0) || s.cap.isSome || (match s.base with
  | none => true
  | some p => match H.get p.1 with
   | some row => !Nat.beq row.kind 0 && Nat.beq row.esz sz && Nat.ble 1 sz
   | none => false)
def loOf : Option SV -> Option Int
 | none => some 0
 | some (.int _ b) => some b
 | some _ => none
def sliceOp (H : Heap) (sz : Nat) (s : Sl) (lo hi mx : Option SV) : Option SV :=
 match loOf lo, hi, mx with
 | some a, none, none =>
  if 0 <= a /\ a <= s.len /\ eszOk H sz s a = true then some (.slice (subSl sz s a.toNat (s.len - a.toNat) (s.cap.map (· - a.toNat)))) else none
 | some a, some (.int _ b), none =>
  if 0 <= a /\ a <= b /\ fitsCap H sz s b = true /\ eszOk H sz s a = true then some (.slice (subSl sz s a.toNat (b - a).toNat (s.cap.map (· - a.toNat)))) else none
 | some a, some (.int _ b), some (.int _ m) =>
  if 0 <= a /\ a <= b /\ b <= m /\ fitsCap H sz s m = true /\ (0 < m \/ s.base.map (·.2) = some s.alt \/ s.base = none) then some (.slice (subSl sz s a.toNat (b - a).toNat (some (m - a).toNat))) else none
 | _, _, _ => none
def bytesOf : List SV -> Option (List UInt8)
 | [] => some []
 | .int .u8 n :: rest => (bytesOf rest).map (UInt8.ofNat n.toNat :: ·)
 | _ :: _ => none
def opR (k : RK) (xs : List SV) (H : Heap) : Option SV :=
 match k, xs with
 | .load n agg, [.ptr p] => (H.read p.1 p.2 n).bind (shaped agg)
 | .slice sz false false false, [.slice s] => sliceOp H sz s none none none
 | .slice sz true false false, [.slice s, a] => sliceOp H sz s (some a) none none
 | .slice sz false true false, [.slice s, b] => sliceOp H sz s none (some b) none
 | .slice sz true true false, [.slice s, a, b] => sliceOp H sz s (some a) (some b) none
 | .slice sz false true true, [.slice s, b, c] => sliceOp H sz s none (some b) (some c)
 | .slice sz true true true, [.slice s, a, b, c] => sliceOp H sz s (some a) (some b) (some c)
 | .str, [.slice s] => ((H.elems 1 s).bind bytesOf).map .str
 | _, _ => none
inductive EK where
 | store (n : Nat)
 | append (sz bytes : Nat)
 | appendStr (bytes : Nat)
 | copy (sz : Nat)
 | build (sz : Nat) (zero : List SV) (places : List (Nat × Nat))
 | make (sz bytes : Nat) (zero : List SV)
 | alloc (zero : List SV)
 | box
def roomy (need bytes : Nat) : Bool := Nat.ble ((4 * need + 4096) * (bytes + 1)) 70368744177664
def newRow (sz : Nat) (cs : List SV) : Row := ⟨2, sz, 0, cs⟩
def capZero : Option Nat -> Bool
 | none => true
 | some c => Nat.beq c 0
def capRoom (cap : Option Nat) (need o sz len : Nat) : Bool :=
 match cap with
 | none => true
 | some c => Nat.blt c need || Nat.ble (o + c * sz) len
def appendOp (H : Heap) (sz bytes : Nat) (s : Sl) (n : Nat) (src : List SV) : Option (SV × Heap) :=
 bif Nat.ble 1 sz && roomy (s.len + n) bytes then
  bif Nat.beq n 0 then some (.slice s, H) else
  match s.base with
  | none =>
   bif Nat.beq s.len 0 && capZero s.cap then
    some (.slice ⟨some (H.size, 0), n, none, 0⟩, H.push (newRow sz src))
   else none
  | some (r, o) =>
   match H.get r with
   | some row =>
    bif Nat.beq row.kind 2 && Nat.beq row.esz sz && Nat.beq (o % sz) 0
      && capRoom s.cap (s.len + n) o sz row.cells.length then
     (cut row.cells o (s.len * sz)).map fun old =>
      (.slice ⟨some (H.size, 0), s.len + n, none, 0⟩, (H.kill r row).push (newRow sz (old ++ src)))
    else none
   | none => none
 else none
def repeatL (n : Nat) (zero : List SV) : List SV := (List.replicate n zero).flatten
def opE (k : EK) (xs : List SV) (H : Heap) : Option (SV × Heap) :=
 match k, xs with
 | .store n, [.ptr p, x] => bif x.item && Nat.beq x.cells.length n then (H.write p.1 p.2 x.cells).map fun H' => (.undef, H') else none
 | .append sz bytes, [.slice s, .slice x] => (H.elems sz x).bind fun src => appendOp H sz bytes s x.len src
 | .appendStr bytes, [.slice s, .str x] => appendOp H 1 bytes s x.length (x.map fun b => .int .u8 b.toNat)
 | .copy sz, [.slice s, .slice x] =>
  let n := min x.len s.len
  (H.elems sz { x with len := n }).bind fun src =>
   match s.base with
   | none => some (.int .i64 n, H)
   | some (r, o) => (H.write r o src).map fun H' => (.int .i64 n, H')
 | .build sz zero places, xs =>
  bif Nat.beq places.length xs.length && Nat.ble 1 sz && Nat.ble zero.length 1000000 then
   (fillS zero ((places.zip xs).map fun p => (p.1.1, p.1.2, p.2))).map fun cs =>
    (.slice ⟨some (H.size, 0), zero.length / sz, none, 0⟩, H.push (newRow sz cs))
  else none
 | .make sz bytes zero, [.int _ l, .int _ c] =>
  if 0 <= l /\ l <= c /\ c <= 1099511627776 /\ roomy c.toNat bytes = true /\ 0 < sz then
   some (.slice ⟨some (H.size, 0), l.toNat, none, 0⟩, H.push (newRow sz (repeatL c.toNat zero)))
  else none
 | .alloc zero, [] => some (.ptr (H.size, 0), H.push (newRow 1 zero))
 | .box, [x] => bif x.item then some (.ptr (H.size, 0), H.push (newRow 1 x.cells)) else none
 | _, _ => none
inductive Opd where
 | t (n : Nat)
 | c (v : SV)
inductive K where
 | p (k : PK)
 | b (k : BK)
 | r (k : RK)
 | e (k : EK)
 | call (f : Nat)
 | callv
structure Op where
 k : K
 args : List Opd
 dst : Option Nat
 clr : List Nat
 guard : Option (Nat × Bool)
inductive CC where
 | skip
 | ret
 | ops (l : List Op)
 | draw (l : List Op) (pairs : List (Nat × Nat))
 | seq (a b : CC)
 | cond (c : Opd) (a b : CC)
 | block (id : Nat) (c : CC)
 | loop (live : List Nat) (nt : Nat) (c : CC)
 | exit (id : Nat)
 | scope (c : CC)
abbrev Tmps := List SV
def getT (T : Tmps) (n : Nat) : SV := T.getD n .junk
def Opd.ev (T : Tmps) : Opd -> SV
 | .t n => getT T n
 | .c v => v
def setD (T : Tmps) : Option Nat -> SV -> Tmps
 | some d, v => T.set d v
 | none, _ => T
def clear (T : Tmps) : List Nat -> Tmps
 | [] => T
 | n :: l => clear (T.set n .junk) l
def proj (T : Tmps) : List Nat -> List SV
 | [] => []
 | n :: l => getT T n :: proj T l
def placeOf : List Nat -> Nat -> Option Nat
 | [], _ => none
 | n :: l, k => bif Nat.beq n k then some 0 else (placeOf l k).map (· + 1)
def unprojFrom (live : List Nat) (vs : List SV) : Nat -> Nat -> Tmps
 | 0, _ => []
 | n + 1, i => (match placeOf live i with | some j => getT vs j | none => .junk) :: unprojFrom live vs n (i + 1)
def unproj (nt : Nat) (live : List Nat) (vs : List SV) : Tmps := unprojFrom live vs nt 0
abbrev CallF (R : Type) := Nat -> List SV -> Heap -> (SV -> Heap -> Option R) -> Option R
section
variable {R : Type}
def callV (call : CallF R) (xs : List SV) (H : Heap) (k : SV -> Heap -> Option R) : Option R :=
 match xs with
 | .fn f bound caps :: args => call f (bound ++ (args ++ caps)) H k
 | _ => none
def Op.run (call : CallF R) (o : Op) (T : Tmps) (H : Heap) (k : Tmps -> Heap -> Option R) : Option R :=
 let fin (y : SV) (H : Heap) : Option R := k (setD (clear T o.clr) o.dst y) H
 match o.k with
 | .p pk => (opP pk (o.args.map (·.ev T))).bind fun y => fin y H
 | .b bk => (opB bk (o.args.map (·.ev T))).bind fun cs => fin (.box cs) H
 | .r rk => (opR rk (o.args.map (·.ev T)) H).bind fun y => fin y H
 | .e ek => (opE ek (o.args.map (·.ev T)) H).bind fun p => fin p.1 p.2
 | .call f => call f (o.args.map (·.ev T)) H fin
 | .callv => callV call (o.args.map (·.ev T)) H fin
def condK (v : SV) (A B : Option R) : Option R :=
 match v with
 | .bool true => A
 | .bool false => B
 | _ => none
def guardK (v : SV) (F : Bool -> Option R) (U : Option R) : Option R :=
 match v with
 | .bool true => F true
 | .bool false => F false
 | .undef => U
 | _ => none
def boolEq : Bool -> Bool -> Bool
 | true, true => true
 | false, false => true
 | _, _ => false
def isSt : K -> Bool
 | .b (.store _ _) => true
 | .b (.storep _) => true
 | _ => false
def Op.skipT (o : Op) (T : Tmps) : Tmps := bif isSt o.k then T else setD T o.dst .undef
def Op.step (call : CallF R) (o : Op) (T : Tmps) (H : Heap) (k : Tmps -> Heap -> Option R) : Option R :=
 match o.guard with
 | none => o.run call T H k
 | some (g, want) => guardK (getT T g) (fun b =>
  bif boolEq b want then o.run call (T.set g (.bool b)) H k else k (o.skipT (T.set g (.bool b))) H) (k (o.skipT (T.set g .undef)) H)
def runOps (call : CallF R) : List Op -> Tmps -> Heap -> (Tmps -> Heap -> Option R) -> Option R
 | [], T, H, k => k T H
 | o :: l, T, H, k => o.step call T H fun T H => runOps call l T H k
abbrev Trace := List (SV × Heap × Heap)
def Op.first (o : Op) (T : Tmps) : SV := match o.args with | x :: _ => x.ev T | [] => .undef
def rowOf : SV -> Option Nat
 | .ptr p => some p.1
 | .slice s => s.base.map (·.1)
 | _ => none
def verEq : Option Nat -> Option Nat -> Bool
 | some a, some b => Nat.beq a b
 | none, none => true
 | _, _ => false
def sameRow (x : SV) (H H' : Heap) : Bool :=
 match rowOf x with
 | some r => verEq (H.ver r) (H'.ver r)
 | none => true
def checkP (tr : Trace) (t : Option R) : List (Nat × Nat) -> Option R
 | [] => t
 | (i, e) :: ps =>
  match tr[i]?, tr[e]? with
  | some (x, _, _), some (_, H, H') => bif sameRow x H H' then checkP tr t ps else none
  | _, _ => none
def runDraw (call : CallF R) (pairs : List (Nat × Nat)) : List Op -> Trace -> Tmps -> Heap -> (Tmps -> Heap -> Option R) -> Option R
 | [], tr, T, H, k => checkP tr.reverse (k T H) pairs
 | o :: l, tr, T, H, k => o.step call T H fun T' H' => runDraw call pairs l ((o.first T, H, H') :: tr) T' H' k
def loopN (body : List SV -> Heap -> (List SV -> Heap -> Option R) -> Option R) : Nat -> List SV -> Heap -> Option R
 | 0, _, _ => none
 | n + 1, vs, H => body vs H (loopN body n)
def exec (K : Nat) (call : CallF R) : CC -> Tmps -> Heap -> (kn : Tmps -> Heap -> Option R) -> (ke : Nat -> Tmps -> Heap -> Option R) -> (kr : Tmps -> Heap -> Option R) -> Option R
 | .skip, T, H, kn, _, _ => kn T H
 | .ret, T, H, _, _, kr => kr T H
 | .ops l, T, H, kn, _, _ => runOps call l T H kn
 | .draw l pairs, T, H, kn, _, _ => runDraw call pairs l [] T H kn
 | .seq a b, T, H, kn, ke, kr => exec K call a T H (fun T H => exec K call b T H kn ke kr) ke kr
 | .cond c a b, T, H, kn, ke, kr => condK (c.ev T) (exec K call a T H kn ke kr) (exec K call b T H kn ke kr)
 | .block id c, T, H, kn, ke, kr => exec K call c T H kn (fun i T H => bif Nat.beq i id then kn T H else ke i T H) kr
 | .loop live nt c, T, H, _, ke, kr => loopN (fun vs H k => exec K call c (unproj nt live vs) H (fun T' H' => k (proj T' live) H') ke kr) K (proj T live) H
 | .exit id, T, H, _, ke, _ => ke id T H
 | .scope c, T, H, kn, ke, kr => exec K call c T H kn ke kr
end
inductive Res where
 | t (n : Nat)
 | cell (n size : Nat) (agg : Bool)
structure Fn where
 nparams : Nat
 ntmps : Nat
 res : List Res
 body : CC
def Res.slot : Res -> Nat
 | .t n => n
 | .cell n _ _ => n
def Res.of : Res -> SV -> Option SV
 | .t _, v => bif v.good then some v else none
 | .cell _ size agg, v => match v with | .box cs => (cut cs 0 size).bind (shaped agg) | _ => none
def oneOf : List SV -> SV
 | [v] => v
 | vs => .tuple vs
def resK {R : Type} (T : Tmps) : List Res -> (List SV -> Option R) -> Option R
 | [], k => k []
 | r :: l, k => (r.of (getT T r.slot)).bind fun v => resK T l fun vs => k (v :: vs)
def retK (res : List Res) (T : Tmps) (H : Heap) : Option (SV × Heap) := resK T res fun vs => some (oneOf vs, H)
abbrev CallC := Nat -> List SV -> Heap -> Option (SV × Heap)
def viaC {R : Type} (C : CallC) : CallF R := fun g xs H k => (C g xs H).bind fun p => k p.1 p.2
def runFn (fn : Fn) (K : Nat) (C : CallC) (args : List SV) (H : Heap) : Option (SV × Heap) :=
 exec K (viaC C) fn.body (args ++ List.replicate (fn.ntmps - fn.nparams) .junk) H (retK fn.res) (fun _ _ _ => none) (retK fn.res)
def run (fns : Nat -> Option Fn) (K : Nat) : Nat -> CallC
 | 0, _, _, _ => none
 | d + 1, f, args, H =>
  match fns f with
  | none => none
  | some fn => bif Nat.beq args.length fn.nparams then runFn fn K (run fns K d) args H else none
end Go.Sh
namespace Go.Sh
open Go
structure Loc where
 block : Nat
 off : Nat
 ext : Nat
 esz : Nat
abbrev Place := Nat -> Loc
def addrOf (ρ : Place) (p : Nat × Nat) : Addr := ⟨(ρ p.1).block, (ρ p.1).off + p.2, none⟩
def baseC (ρ : Place) (cap alt : Nat) (p : Nat × Nat) : Addr := if cap = 0 then (if alt <= p.2 then addrOf ρ (p.1, alt) else { addrOf ρ p with spot := some (alt - p.2 - 1) }) else addrOf ρ p
def capC (ρ : Place) (s : Sl) : Nat :=
 match s.cap with
 | some c => c
 | none => match s.base with
  | none => 0
  | some p => ((ρ p.1).ext - p.2) / (ρ p.1).esz
mutual
def conc (ρ : Place) : SV -> Value
 | .junk => Go.undef
 | .undef => Go.undef
 | .bool b => .bool b
 | .int k n => .int k n
 | .str s => .string ⟨s.toArray⟩
 | .slice s => .slice (s.base.map (baseC ρ (capC ρ s) s.alt)) s.len (capC ρ s)
 | .ptr p => .pointer (some (addrOf ρ p))
 | .nilp => .pointer none
 | .fn f b c => .func (.func f) (concL ρ b).toArray (concL ρ c).toArray
 | .nilf => .nilFunc
 | .agg cs => .agg (concL ρ cs).toArray
 | .tuple vs => .tuple (concL ρ vs).toArray
 | .box _ => Go.undef
 | .lptr _ => Go.undef
def concL (ρ : Place) : List SV -> List Value
 | [] => []
 | v :: l => conc ρ v :: concL ρ l
end
theorem concL_eq (ρ : Place) : ∀ l, concL ρ l = l.map (conc ρ)
 | [] => by simp [concL]
 | v :: l => by simp [concL, concL_eq ρ l]
mutual
def okSV (ρ : Place) (n : Nat) : SV -> Prop
 | .junk => False
 | .box _ => False
 | .lptr _ => False
 | .slice s => (∀ p, s.base = some p -> p.1 < n) /\ s.len <= capC ρ s
 | .ptr p => p.1 < n
 | .fn _ b c => okL ρ n b /\ okL ρ n c
 | .agg cs => okL ρ n cs /\ cs.all SV.flat = true
 | .tuple vs => okL ρ n vs
 | _ => True
def okL (ρ : Place) (n : Nat) : List SV -> Prop
 | [] => True
 | v :: l => okSV ρ n v /\ okL ρ n l
end
theorem okL_iff (ρ : Place) (n : Nat) : ∀ l, okL ρ n l ↔ ∀ v ∈ l, okSV ρ n v
 | [] => by simp [okL]
 | v :: l => by simp [okL, okL_iff ρ n l]
theorem capC_congr {ρ ρ' : Place} {n : Nat} (h : ∀ i, i < n -> ρ' i = ρ i) (s : Sl) (hs : ∀ p, s.base = some p -> p.1 < n) : capC ρ' s = capC ρ s := by
 unfold capC
 cases s.cap with
 | some c => rfl
 | none =>
  cases hb : s.base with
  | none => rfl
  | some p => simp [h _ (hs p hb)]
mutual
theorem conc_congr {ρ ρ' : Place} {n : Nat} (h : ∀ i, i < n -> ρ' i = ρ i) : ∀ v, okSV ρ n v -> conc ρ' v = conc ρ v
 | .junk, _ => rfl
 | .undef, _ => rfl
 | .bool _, _ => rfl
 | .int _ _, _ => rfl
 | .str _, _ => rfl
 | .slice s, hv => by
  simp only [okSV] at hv
  have hc := capC_congr h s hv.1
  cases hb : s.base with
  | none => simp [conc, hb, hc]
  | some p =>
   have := h _ (hv.1 p hb)
   simp [conc, hc, hb, baseC, addrOf, this]
 | .ptr p, hv => by
  simp only [okSV] at hv
  simp [conc, addrOf, h _ hv]
 | .nilp, _ => rfl
 | .fn _ b c, hv => by
  simp only [okSV] at hv
  simp [conc, concL_congr h b hv.1, concL_congr h c hv.2]
 | .nilf, _ => rfl
 | .agg cs, hv => by
  simp only [okSV] at hv
  simp [conc, concL_congr h cs hv.1]
 | .tuple vs, hv => by
  simp only [okSV] at hv
  simp [conc, concL_congr h vs hv]
 | .box _, _ => rfl
 | .lptr _, _ => rfl
theorem concL_congr {ρ ρ' : Place} {n : Nat} (h : ∀ i, i < n -> ρ' i = ρ i) : ∀ l, okL ρ n l -> concL ρ' l = concL ρ l
 | [], _ => by simp [concL]
 | v :: l, hl => by
  simp only [okL] at hl
  simp [concL, conc_congr h v hl.1, concL_congr h l hl.2]
end
mutual
theorem okSV.ext {ρ ρ' : Place} {n m : Nat} (hρ : ∀ i, i < n -> ρ' i = ρ i) (h : n <= m) : ∀ v, okSV ρ n v -> okSV ρ' m v
 | .junk, hv => by simp [okSV] at hv
 | .undef, _ => by simp [okSV]
 | .bool _, _ => by simp [okSV]
 | .int _ _, _ => by simp [okSV]
 | .str _, _ => by simp [okSV]
 | .slice s, hv => by
  simp only [okSV] at hv ⊢
  exact ⟨fun p hp => Nat.lt_of_lt_of_le (hv.1 p hp) h, by rw [capC_congr hρ s hv.1]; exact hv.2⟩
 | .ptr p, hv => by
  simp only [okSV] at hv ⊢
  exact Nat.lt_of_lt_of_le hv h
 | .nilp, _ => by simp [okSV]
 | .fn _ b c, hv => by
  simp only [okSV] at hv ⊢
  exact ⟨okL.ext hρ h b hv.1, okL.ext hρ h c hv.2⟩
 | .nilf, _ => by simp [okSV]
 | .agg cs, hv => by
  simp only [okSV] at hv ⊢
  exact ⟨okL.ext hρ h cs hv.1, hv.2⟩
 | .tuple vs, hv => by
  simp only [okSV] at hv ⊢
  exact okL.ext hρ h vs hv
 | .box _, hv => by simp [okSV] at hv
 | .lptr _, hv => by simp [okSV] at hv
theorem okL.ext {ρ ρ' : Place} {n m : Nat} (hρ : ∀ i, i < n -> ρ' i = ρ i) (h : n <= m) : ∀ l, okL ρ n l -> okL ρ' m l
 | [], _ => by simp [okL]
 | v :: l, hl => by
  simp only [okL] at hl ⊢
  exact ⟨okSV.ext hρ h v hl.1, okL.ext hρ h l hl.2⟩
end
theorem Heap.get_lt {H : Heap} {r : Nat} {row : Row} (h : H.get r = some row) : r < H.size := by
 unfold Heap.get at h
 cases hb : Nat.blt r H.size with
 | false => simp [hb] at h
 | true => simpa [Nat.blt_eq] using hb
theorem Tr.get_val (t : Tr) : t.get 0 = t.val := by cases t <;> rfl
theorem Tr.get_left (t : Tr) (m : Nat) (h : Nat.beq (m % 2) 0 = true) : t.get (m + 1) = t.left.get (m / 2) := by
 cases t with
 | nil => rfl
 | node v l r => simp only [Tr.get, Tr.left, h, cond_true]
theorem Tr.get_right (t : Tr) (m : Nat) (h : Nat.beq (m % 2) 0 = false) : t.get (m + 1) = t.right.get (m / 2) := by
 cases t with
 | nil => rfl
 | node v l r => simp only [Tr.get, Tr.right, h, cond_false]
theorem Tr.get_set_self (row : Row) : ∀ (f : Nat) (t : Tr) (n : Nat), n < f -> (Tr.setF row f t n).get n = some row
 | 0, _, _, h => by omega
 | f + 1, t, 0, _ => rfl
 | f + 1, t, m + 1, h => by
  simp only [Tr.setF]
  cases hb : Nat.beq (m % 2) 0 with
  | true => simp only [cond_true, Tr.get, hb]; exact Tr.get_set_self row f _ _ (by omega)
  | false => simp only [cond_false, Tr.get, hb]; exact Tr.get_set_self row f _ _ (by omega)
theorem Tr.get_set_ne (row : Row) : ∀ (f : Nat) (t : Tr) (n k : Nat), n ≠ k -> (Tr.setF row f t n).get k = t.get k
 | 0, _, _, _, _ => rfl
 | f + 1, t, 0, 0, h => absurd rfl h
 | f + 1, t, 0, k + 1, _ => by
  simp only [Tr.setF]
  cases hb : Nat.beq (k % 2) 0 with
  | true => rw [Tr.get_left _ _ hb, Tr.get_left _ _ hb]; rfl
  | false => rw [Tr.get_right _ _ hb, Tr.get_right _ _ hb]; rfl
 | f + 1, t, m + 1, 0, _ => by
  simp only [Tr.setF]
  cases Nat.beq (m % 2) 0 with
  | true => rw [cond_true, Tr.get_val t]; rfl
  | false => rw [cond_false, Tr.get_val t]; rfl
 | f + 1, t, m + 1, k + 1, h => by
  simp only [Tr.setF]
  cases hm : Nat.beq (m % 2) 0 with
  | true =>
   rw [cond_true]
   cases hk : Nat.beq (k % 2) 0 with
   | true =>
    rw [Tr.get_left _ _ hk, Tr.get_left _ _ hk]
    have e1 := Nat.eq_of_beq_eq_true hm
    have e2 := Nat.eq_of_beq_eq_true hk
    exact Tr.get_set_ne row f _ _ _ (by omega)
   | false => rw [Tr.get_right _ _ hk, Tr.get_right _ _ hk]; rfl
  | false =>
   rw [cond_false]
   cases hk : Nat.beq (k % 2) 0 with
   | true => rw [Tr.get_left _ _ hk, Tr.get_left _ _ hk]; rfl
   | false =>
    rw [Tr.get_right _ _ hk, Tr.get_right _ _ hk]
    have e1 : m % 2 ≠ 0 := fun e => by rw [e] at hm; cases hm
    have e2 : k % 2 ≠ 0 := fun e => by rw [e] at hk; cases hk
    exact Tr.get_set_ne row f _ _ _ (by omega)
theorem Heap.get_push_self (H : Heap) (row : Row) : (H.push row).get H.size = some row := by
 have : Nat.blt H.size (H.size + 1) = true := by rw [Nat.blt_eq]; omega
 simp only [Heap.get, Heap.push, this, cond_true]
 exact Tr.get_set_self _ _ _ _ (Nat.lt_succ_self _)
theorem Heap.get_push_ne (H : Heap) (row : Row) {r : Nat} (h : r ≠ H.size) : (H.push row).get r = H.get r := by
 have : Nat.blt r (H.size + 1) = Nat.blt r H.size := by
  rw [Bool.eq_iff_iff, Nat.blt_eq, Nat.blt_eq]; omega
 simp only [Heap.get, Heap.push, this]
 rw [Tr.get_set_ne _ _ _ _ _ (Ne.symm h)]
theorem Heap.size_push (H : Heap) (row : Row) : (H.push row).size = H.size + 1 := rfl
theorem Heap.get_set_self {H : Heap} {r : Nat} {row0 : Row} (h : H.get r = some row0) (row : Row) : (H.set r row).get r = some row := by
 have hlt := Heap.get_lt h
 have hb : Nat.blt r H.size = true := by rw [Nat.blt_eq]; exact hlt
 simp only [Heap.get, Heap.set, hb, cond_true]
 exact Tr.get_set_self _ _ _ _ (Nat.lt_succ_self _)
theorem Heap.get_set_ne (H : Heap) {r r' : Nat} (h : r ≠ r') (row : Row) : (H.set r row).get r' = H.get r' := by
 simp only [Heap.get, Heap.set]
 rw [Tr.get_set_ne _ _ _ _ _ h]
theorem Heap.size_set (H : Heap) (r : Nat) (row : Row) : (H.set r row).size = H.size := rfl
def RowExt : Option Row -> Option Row -> Prop
 | some a, some b => a.ver <= b.ver /\ (b.ver = a.ver -> b = a) /\ (b.kind ≠ 0 -> b.kind = a.kind)
 | none, none => True
 | _, _ => False
theorem RowExt.refl (a : Option Row) : RowExt a a := by cases a <;> simp [RowExt]
theorem RowExt.trans {a b c : Option Row} (h : RowExt a b) (h' : RowExt b c) : RowExt a c := by
 cases a <;> cases b <;> cases c <;> simp only [RowExt] at *
 rename_i a b c
 obtain ⟨h1, h2, h3⟩ := h
 obtain ⟨k1, k2, k3⟩ := h'
 refine ⟨by omega, fun e => ?_, fun e => ?_⟩
 ·have hb : b.ver = a.ver := by omega
  have hc : c.ver = b.ver := by omega
  rw [k2 hc, h2 hb]
 ·have := k3 e
  rw [this]
  exact h3 (by rw [<- this]; exact e)
structure HExt (H H' : Heap) : Prop where
 size : H.size <= H'.size
 rows : ∀ r, r < H.size -> RowExt (H.get r) (H'.get r)
 news : ∀ r, H.size <= r -> ∀ row, H'.get r = some row -> row.kind ≠ 0 -> row.kind = 2
theorem HExt.refl (H : Heap) : HExt H H := ⟨Nat.le_refl _, fun _ _ => RowExt.refl _, fun r hr row h => by
 have := Heap.get_lt h
 omega⟩
theorem HExt.trans {H H' H'' : Heap} (h : HExt H H') (h' : HExt H' H'') : HExt H H'' :=
 ⟨Nat.le_trans h.size h'.size, fun r hr => (h.rows r hr).trans (h'.rows r (Nat.lt_of_lt_of_le hr h.size)), fun r hr row hg hk => by
  by_cases hlt : r < H'.size
  ·have := h'.rows r hlt
   rw [hg] at this
   cases hg' : H'.get r with
   | none => simp [hg', RowExt] at this
   | some row' =>
    rw [hg'] at this
    simp only [RowExt] at this
    have h1 := this.2.2 hk
    rw [h1]
    exact h.news r hr row' hg' (by rw [<- h1]; exact hk)
  ·exact h'.news r (by omega) row hg hk⟩
theorem HExt.push {H H' : Heap} (h : HExt H H') (row : Row) (hk : row.kind = 2) : HExt H (H'.push row) := by
 refine h.trans ⟨by simp [Heap.size_push], fun r hr => ?_, fun r hr row' hg _ => ?_⟩
 ·rw [Heap.get_push_ne _ _ (by omega)]; exact RowExt.refl _
 ·have := Heap.get_lt hg
  rw [Heap.size_push] at this
  obtain rfl : r = H'.size := by omega
  rw [Heap.get_push_self] at hg
  cases hg
  exact hk
theorem HExt.set {H H' : Heap} (h : HExt H H') {r : Nat} {row0 : Row} (hg : H'.get r = some row0) (row : Row) (hv : row0.ver < row.ver) (hk : row.kind ≠ 0 -> row.kind = row0.kind) : HExt H (H'.set r row) := by
 refine h.trans ⟨by simp [Heap.size_set], fun r' hr' => ?_, fun r' hr' row' hg' _ => ?_⟩
 ·by_cases hrr : r = r'
  ·subst hrr
   rw [Heap.get_set_self hg, hg]
   exact ⟨by omega, fun e => by omega, hk⟩
  ·rw [Heap.get_set_ne _ hrr]; exact RowExt.refl _
 ·have := Heap.get_lt hg'
  rw [Heap.size_set] at this
  omega
structure Ctx where
 w0 : World
 H0 : Heap
 ρ0 : Place
def Ctx.own (cx : Ctx) (b : Nat) : Prop := ∃ r row, cx.H0.get r = some row /\ row.kind = 2 /\ (cx.ρ0 r).block = b
def unfrozen (mk : Nat × Nat) (lo hi : Nat) : Prop := ∀ j, lo <= j -> j < hi -> ¬ (mk.1 <= j /\ j < mk.2)
structure RowRel (ρ : Place) (n : Nat) (w : World) (l : Loc) (row : Row) : Prop where
 blk : ∃ arr E mk, w.heap[l.block]? = some (.cells arr E mk) /\ l.off + l.ext <= arr.size /\ 
  (∀ j v, row.cells[j]? = some v -> arr[l.off + j]? = some (conc ρ v)) /\ (row.kind = 2 -> unfrozen mk l.off (l.off + l.ext))
 fits : row.cells.length <= l.ext
 ok : ∀ v ∈ row.cells, okSV ρ n v /\ v.flat = true
 esz : l.esz = row.esz
structure HRel (cx : Ctx) (ρ : Place) (H : Heap) (w : World) : Prop where
 os : w.os = cx.w0.os
 tape : w.tape = cx.w0.tape
 output : w.output = cx.w0.output
 size : cx.w0.heap.size <= w.heap.size
 keep : ∀ b, b < cx.w0.heap.size -> ¬ cx.own b -> w.heap[b]? = cx.w0.heap[b]?
 rows : ∀ r row, H.get r = some row -> row.kind ≠ 0 -> RowRel ρ H.size w (ρ r) row
 own : ∀ r row, H.get r = some row -> row.kind = 2 -> cx.own (ρ r).block \/ cx.w0.heap.size <= (ρ r).block
 sep : ∀ r r' row row', H.get r = some row -> H.get r' = some row' -> row.kind = 2 -> row'.kind ≠ 0 -> r ≠ r' -> (ρ r).block ≠ (ρ r').block
 ext : HExt cx.H0 H
 old : ∀ i, i < cx.H0.size -> ρ i = cx.ρ0 i
def SlotRel (ρ : Place) (lam : Nat -> Nat) (der : Nat -> Option Nat) (n t : Nat) (sv : SV) (v : Value) : Prop :=
 match sv with
 | .junk => True
 | .box _ => v = .pointer (some ⟨lam t, 0, none⟩)
 | .lptr o => ∃ u, der t = some u /\ v = .pointer (some ⟨lam u, o, none⟩)
 | sv => okSV ρ n sv /\ v = conc ρ sv
structure BoxRel (ρ : Place) (n : Nat) (w : World) (b : Nat) (cs : List SV) : Prop where
 blk : ∃ arr E mk, w.heap[b]? = some (.cells arr E mk) /\ arr.size = cs.length /\ (∀ (j : Nat) (v : SV), cs[j]? = some v -> arr[j]? = some (conc ρ v)) /\ unfrozen mk 0 cs.length
 ok : ∀ v ∈ cs, okSV ρ n v /\ v.flat = true
structure TRel (cx : Ctx) (ρ : Place) (lam : Nat -> Nat) (loc : Nat -> Bool) (der : Nat -> Option Nat) (H : Heap) (w : World) (T : Tmps) (a : Act) : Prop where
 len : T.length = a.tmps.size
 slot : ∀ t v, T[t]? = some v -> SlotRel ρ lam der H.size t v (a.tmps.getD t Go.undef)
 box : ∀ t cs, T[t]? = some (.box cs) -> BoxRel ρ H.size w (lam t) cs
 boxsep : ∀ t t' cs cs', T[t]? = some (.box cs) -> T[t']? = some (.box cs') -> t ≠ t' -> lam t ≠ lam t'
 boxrow : ∀ t cs, T[t]? = some (.box cs) -> ∀ r row, H.get r = some row -> row.kind ≠ 0 -> (ρ r).block ≠ lam t
 boxloc : ∀ t cs, T[t]? = some (.box cs) -> loc t = true
 boxnew : ∀ t cs, T[t]? = some (.box cs) -> cx.w0.heap.size <= lam t
 nodefer : a.defers = []
end Go.Sh
namespace Go.Sh
open Go
structure Hints where
 loc : List Nat
 der : List (Nat × Nat)
 live : List (Nat × List Nat)
 nt : Nat
def assoc {α : Type} : List (Nat × α) -> Nat -> Option α
 | [], _ => none
 | (i, x) :: l, k => bif Nat.beq i k then some x else assoc l k
def Hints.derOf (h : Hints) (t : Nat) : Option Nat := assoc h.der t
def Hints.isLoc (h : Hints) (t : Nat) : Bool := h.loc.any (Nat.beq t)
def Hints.clrOf (h : Hints) (t : Nat) : List Nat := (h.der.filter fun p => Nat.beq p.2 t).map (·.1)
def svCell : Value -> Option SV
 | .bool b => some (.bool b)
 | .int k n => some (.int k n)
 | .string s => some (.str s.data.toList)
 | .slice none 0 0 => some (.slice nilSl)
 | .pointer none => some .nilp
 | .nilFunc => some .nilf
 | _ => none
def svCells : List Value -> Option (List SV)
 | [] => some []
 | v :: l => (svCell v).bind fun x => (svCells l).map (x :: ·)
def svOf : Value -> Option SV
 | .agg cs => (svCells cs.toList).map .agg
 | v => svCell v
def opd (h : Hints) : Operand -> Option Opd
 | .tmp t => bif h.isLoc t || (h.derOf t).isSome then none else some (.t t)
 | .const v => (svOf v).map .c
 | .global _ => none
 | .func f => some (.c (.fn f [] []))
def opds (h : Hints) : List Operand -> Option (List Opd)
 | [] => some []
 | x :: l => (opd h x).bind fun y => (opds h l).map (y :: ·)
section
variable (P : Program) (h : Hints)
def sizeT (t : TypeId) : Option Nat := (P.info? t).map (·.size)
def aggT (t : TypeId) : Option Bool :=
 match P.underlying t with
 | some (.struct _) => some true
 | some (.array _ _) => some true
 | some _ => some false
 | none => none
def zeroT (t : TypeId) : Option (List SV) := ((P.info? t).bind (·.zero)).bind fun v => svCells v.cells.toList
def zeroOf (t : TypeId) : Option (List SV) := (zeroT P t).bind fun z => (sizeT P t).bind fun n => if z.length = n then some z else none
def bytesT (t : TypeId) : Option Nat := (P.info? t).map (·.bytes)
def mkOp (o : Oper) (k : K) (args : List Opd) : Option (K × List Opd × Option Nat × List Nat) := some (k, args, o.dst, [])
def compBin (o : Oper) (op : BinOp) (t : TypeId) (x y : Operand) : Option (K × List Opd × Option Nat × List Nat) :=
 (opd h x).bind fun x => (opd h y).bind fun y =>
  match P.underlying t with
  | some (.int _) => mkOp o (.p (.bin op)) [x, y]
  | some .string => mkOp o (.p (.bin op)) [x, y]
  | some .bool => mkOp o (.p (.binB op)) [x, y]
  | some (.slice _) => mkOp o (.p (.binS op)) [x, y]
  | _ => none
def compConv (o : Oper) (src dst : TypeId) (x : Operand) : Option (K × List Opd × Option Nat × List Nat) :=
 (opd h x).bind fun x =>
  match P.underlying src, P.underlying dst with
  | some (.int _), some (.int k) => mkOp o (.p (.conv k)) [x]
  | some (.slice e), some .string => match P.underlying e with
   | some (.int .u8) => mkOp o (.r .str) [x]
   | _ => none
  | _, _ => none
def compBuiltin (o : Oper) (b : Builtin) (args : Array Operand) (ts : Array TypeId) : Option (K × List Opd × Option Nat × List Nat) :=
 (opds h args.toList).bind fun xs =>
  match b, ts.toList with
  | .len, [t] => match P.underlying t with
   | some (.slice _) => mkOp o (.p .len) xs
   | some .string => mkOp o (.p .slen) xs
   | _ => none
  | .append, [t, u] => match P.underlying t, P.underlying u with
   | some (.slice e), some (.slice _) => (zeroOf P e).bind fun z => (bytesT P e).bind fun by_ => mkOp o (.e (.append z.length by_)) xs
   | some (.slice e), some .string => (zeroOf P e).bind fun z => (bytesT P e).bind fun by_ => if z.length = 1 then mkOp o (.e (.appendStr by_)) xs else none
   | _, _ => none
  | .copy, [t, u] => match P.underlying t, P.underlying u with
   | some (.slice e), some (.slice _) => (sizeT P e).bind fun n => mkOp o (.e (.copy n)) xs
   | _, _ => none
  | .max, _ => mkOp o (.p .max) xs
  | .min, _ => mkOp o (.p .min) xs
  | _, _ => none
def compCall (o : Oper) (c : Call) : Option (K × List Opd × Option Nat × List Nat) :=
 match c.callee with
 | .builtin b => compBuiltin P h o b c.args c.argTypes
 | .value (.func f) => (opds h c.args.toList).bind fun xs => mkOp o (.call f) xs
 | .value (.tmp t) => (opds h c.args.toList).bind fun xs => mkOp o .callv (.t t :: xs)
 | _ => none
def compLoad (o : Oper) (t : TypeId) (x : Operand) : Option (K × List Opd × Option Nat × List Nat) :=
 (sizeT P t).bind fun n => (aggT P t).bind fun ag =>
  match x with
  | .tmp u =>
   bif h.isLoc u then mkOp o (.p (.lload 0 n ag)) [.t u]
   else match h.derOf u with
    | some b => mkOp o (.p (.lloadp n ag)) [.t b, .t u]
    | none => mkOp o (.r (.load n ag)) [.t u]
  | _ => none
def compStore (o : Oper) (t : TypeId) (x v : Operand) : Option (K × List Opd × Option Nat × List Nat) :=
 (sizeT P t).bind fun n => (opd h v).bind fun y =>
  match x, o.dst with
  | .tmp u, none =>
   bif h.isLoc u then some (.b (.store 0 n), [.t u, y], some u, [])
   else match h.derOf u with
    | some b => some (.b (.storep n), [.t b, .t u, y], some b, [])
    | none => some (.e (.store n), [.t u, y], none, [])
  | _, _ => none
def isDer (o : Oper) (u : Nat) : Bool := match o.dst with | some d => (match h.derOf d with | some b => Nat.beq b u | none => false) | none => false
def compField (o : Oper) (s : TypeId) (x : Operand) (f : Nat) : Option (K × List Opd × Option Nat × List Nat) :=
 match P.underlying s with
 | some (.struct fields) => match fields[f]? with
  | some fld => (sizeT P fld.type).bind fun n =>
   if n = 0 then none else
   match x with
   | .tmp u =>
    bif h.isLoc u then (bif isDer h o u then mkOp o (.p (.lfld fld.offset)) [.t u] else none)
    else match h.derOf u with
     | some b => bif isDer h o b then mkOp o (.p (.lfldp fld.offset)) [.t u] else none
     | none => mkOp o (.p (.fld fld.offset)) [.t u]
   | _ => none
  | none => none
 | _ => none
def compIndexAddr (o : Oper) (t : TypeId) (x i : Operand) : Option (K × List Opd × Option Nat × List Nat) :=
 (opd h i).bind fun i =>
 match P.underlying t with
 | some (.slice e) => (sizeT P e).bind fun n => (opd h x).bind fun x => mkOp o (.p (.idx n)) [x, i]
 | some (.array len e) => (sizeT P e).bind fun n =>
  match x with
  | .tmp u =>
   bif h.isLoc u then (bif isDer h o u then mkOp o (.p (.lidx len n)) [.t u, i] else none)
   else match h.derOf u with
    | some b => bif isDer h o b then mkOp o (.p (.lidxp len n)) [.t u, i] else none
    | none => mkOp o (.p (.pidx len n)) [.t u, i]
  | _ => none
 | _ => none
def compIndex (o : Oper) (t : TypeId) (x i : Operand) : Option (K × List Opd × Option Nat × List Nat) :=
 (opd h x).bind fun x => (opd h i).bind fun i =>
 match P.underlying t with
 | some .string => mkOp o (.p .stridx) [x, i]
 | some (.array len e) => (sizeT P e).bind fun n => (aggT P e).bind fun ag => mkOp o (.p (.indexv len n ag)) [x, i]
 | _ => none
def compFieldV (o : Oper) (s : TypeId) (x : Operand) (f : Nat) : Option (K × List Opd × Option Nat × List Nat) :=
 (opd h x).bind fun x =>
 match P.underlying s with
 | some (.struct fields) => match fields[f]? with
  | some fld => (sizeT P fld.type).bind fun n => (aggT P fld.type).bind fun ag => mkOp o (.p (.fieldv fld.offset n ag)) [x]
  | none => none
 | _ => none
def placesOf (fields : Array Field) : List (Nat × Operand) -> Option (List (Nat × Nat))
 | [] => some []
 | (i, _) :: l => (fields[i]?).bind fun f => (sizeT P f.type).bind fun n => (placesOf fields l).map ((f.offset, n) :: ·)
def sizesOk (fields : Array Field) : Bool := fields.toList.all fun f => (sizeT P f.type).isSome
def compBuild (o : Oper) (t : TypeId) (parts : Array (Nat × Operand)) : Option (K × List Opd × Option Nat × List Nat) :=
 (opds h (parts.toList.map (·.2))).bind fun xs => (zeroT P t).bind fun z =>
 match P.underlying t with
 | some (.struct fields) => (placesOf P fields parts.toList).bind fun ps => bif sizesOk P fields then mkOp o (.p (.build z ps)) xs else none
 | some (.array _ e) => (sizeT P e).bind fun n => mkOp o (.p (.build z (parts.toList.map fun p => (p.1 * n, n)))) xs
 | _ => none
def compBuildSlice (o : Oper) (t : TypeId) (len : Nat) (parts : Array (Nat × Operand)) : Option (K × List Opd × Option Nat × List Nat) :=
 (opds h (parts.toList.map (·.2))).bind fun xs =>
 match P.underlying t with
 | some (.slice e) => (zeroOf P e).bind fun z =>
  if 0 < z.length then mkOp o (.e (.build z.length (repeatL len z) (parts.toList.map fun p => (p.1 * z.length, z.length)))) xs else none
 | _ => none
def compMakeSlice (o : Oper) (t : TypeId) (l c : Operand) : Option (K × List Opd × Option Nat × List Nat) :=
 (opd h l).bind fun l => (opd h c).bind fun c =>
 match P.underlying t with
 | some (.slice e) => (zeroOf P e).bind fun z => (bytesT P e).bind fun by_ => mkOp o (.e (.make z.length by_ z)) [l, c]
 | _ => none
def optOpd : Option Operand -> Option (List Opd)
 | none => some []
 | some x => (opd h x).map fun y => [y]
def compSlice (o : Oper) (t : TypeId) (x : Operand) (lo hi mx : Option Operand) : Option (K × List Opd × Option Nat × List Nat) :=
 (opd h x).bind fun x => (optOpd h lo).bind fun a => (optOpd h hi).bind fun b => (optOpd h mx).bind fun c =>
 match P.underlying t with
 | some (.slice e) => (sizeT P e).bind fun n => mkOp o (.r (.slice n lo.isSome hi.isSome mx.isSome)) (x :: (a ++ (b ++ c)))
 | some .string => bif mx.isSome then none else mkOp o (.p (.strcut lo.isSome hi.isSome)) (x :: (a ++ b))
 | _ => none
def compK (o : Oper) : Option (K × List Opd × Option Nat × List Nat) :=
 match o.op with
 | .move x => (opd h x).bind fun x => mkOp o (.p .move) [x]
 | .assign x => (opd h x).bind fun x => mkOp o (.p .move) [x]
 | .pick c a b => (opd h c).bind fun c => (opd h a).bind fun a => (opd h b).bind fun b => mkOp o (.p .pick) [c, a, b]
 | .binOp op t x y _ => compBin P h o op t x y
 | .unOp op _ x => (opd h x).bind fun x => mkOp o (.p (.un op)) [x]
 | .convert s d x => compConv P h o s d x
 | .extract x i => (opd h x).bind fun x => mkOp o (.p (.ext i)) [x]
 | .call c => compCall P h o c
 | .load t x => compLoad P h o t x
 | .store t x v => compStore P h o t x v
 | .alloc t => (zeroOf P t).bind fun z =>
  match o.dst with
  | some d => bif h.isLoc d then some (.b (.alloc z), [], some d, h.clrOf d) else mkOp o (.e (.alloc z)) []
  | none => none
 | .box t x => (opd h x).bind fun x =>
  match o.dst with
  | some d => bif h.isLoc d then some (.b .box, [x], some d, h.clrOf d) else mkOp o (.e .box) [x]
  | none => none
 | .fieldAddr s x f => compField P h o s x f
 | .indexAddr t x i => compIndexAddr P h o t x i
 | .index t x i => compIndex P h o t x i
 | .field s x f => compFieldV P h o s x f
 | .build t ps => compBuild P h o t ps
 | .buildSlice t n ps => compBuildSlice P h o t n ps
 | .makeSlice t l c => compMakeSlice P h o t l c
 | .slice t x lo hi mx => compSlice P h o t x lo hi mx
 | .makeFunc (.func f) first captured => (opds h (first.toList ++ captured.toList)).bind fun xs => mkOp o (.p (.mkfn f first.size)) xs
 | .nilCheck x => (opd h x).bind fun x => mkOp o (.p .nilchk) [x]
 | _ => none
def sameOpt : Option Nat -> Option Nat -> Bool
 | none, none => true
 | some a, some b => Nat.beq a b
 | _, _ => false
def dstOk (o : Oper) (k : K) (d : Option Nat) : Bool := bif isSt k then o.dst.isNone else sameOpt d o.dst
def compOp (ops : Array Oper) (o : Oper) : Option Op :=
 (compK P h o).bind fun p =>
  bif dstOk o p.1 p.2.2.1 then
   match o.guard with
   | none => some ⟨p.1, p.2.1, p.2.2.1, p.2.2.2, none⟩
   | some (j, want) => ((ops[j]?).bind (·.dst)).map fun g => ⟨p.1, p.2.1, p.2.2.1, p.2.2.2, some (g, want)⟩
  else none
def compOps (ops : Array Oper) : List Oper -> Option (List Op)
 | [] => some []
 | o :: l => (compOp P h ops o).bind fun x => (compOps ops l).map (x :: ·)
def Op.isE (o : Op) : Bool := match o.k with | .e _ | .call _ | .callv => true | _ => false
def Op.isR (o : Op) : Bool := match o.k with | .r _ => true | _ => false
def Opd.slots : Opd -> List Nat
 | .t n => [n]
 | .c _ => []
def Op.reads (o : Op) : List Nat := (match o.guard with | some (g, _) => [g] | none => []) ++ o.args.flatMap Opd.slots
def Op.writes (o : Op) : List Nat := (match o.dst with | some d => [d] | none => []) ++ o.clr
def precs (ops : List Oper) : List (List Nat) :=
 (ops.foldl (init := []) fun (acc : List (List Nat)) o =>
  acc ++ [o.after.toList.flatMap fun e => bif Region.binds .any e then e.on :: (acc.getD e.on []) else []])
def memN (l : List Nat) (n : Nat) : Bool := l.any (Nat.beq n)
def meets (a b : List Nat) : Bool := a.any (memN b)
def pairOk (a b : Op) : Bool :=
 !meets a.writes b.reads && !meets a.writes b.writes && !meets a.reads b.writes && !(a.isE && b.isE)
def pairsOf (l : List Op) (pr : List (List Nat)) : List (Nat × Nat × Op × Op) :=
 let li := l.zipIdx
 li.flatMap fun (b, j) => (li.filter fun (_, i) => Nat.blt i j && !memN (pr.getD j []) i).map fun (a, i) => (i, j, a, b)
def drawPairs (l : List Op) (pr : List (List Nat)) : List (Nat × Nat) :=
 (pairsOf l pr).flatMap fun (i, j, a, b) =>
  (bif a.isR && b.isE then [(i, j)] else []) ++ (bif a.isE && b.isR then [(j, i)] else [])
def edgesOk (ops : List Oper) : Bool :=
 ops.zipIdx.all fun (o, i) => o.after.toList.all fun e => !Region.binds .any e || Nat.blt e.on i
def drawOk (l : List Op) (pr : List (List Nat)) : Bool := (pairsOf l pr).all fun (_, _, a, b) => pairOk a b
def firstRegion : Code -> Nat
 | .region id _ _ => id
 | .seq a _ => firstRegion a
 | .block _ c => firstRegion c
 | .loop c => firstRegion c
 | .scope c => firstRegion c
 | _ => 0
def compCode : Code -> Option CC
 | .skip => some .skip
 | .ret => some .ret
 | .region _ ops false => (compOps P h ops ops.toList).map .ops
 | .region _ ops true => (compOps P h ops ops.toList).bind fun l =>
  let pr := precs ops.toList
  bif edgesOk ops.toList && drawOk l pr then some (.draw l (drawPairs l pr)) else none
 | .seq a b => (compCode a).bind fun a => (compCode b).map fun b => .seq a b
 | .cond c a b => (opd h c).bind fun c => (compCode a).bind fun a => (compCode b).map fun b => .cond c a b
 | .block id c => (compCode c).map (.block id)
 | .loop c => (compCode c).map (.loop ((assoc h.live (firstRegion c)).getD []) h.nt)
 | .exit id => some (.exit id)
 | .label _ => some .skip
 | .scope c => (compCode c).map .scope
 | _ => none
def compRes : List ResultVar -> Option (List Res)
 | [] => some []
 | .tmp t :: l => (compRes l).map (.t t :: ·)
 | .cell t ty :: l => (sizeT P ty).bind fun n => (aggT P ty).bind fun ag => bif h.isLoc t then (compRes l).map (.cell t n ag :: ·) else none
def compFn (fn : Func) : Option Fn :=
 match fn.body with
 | none => none
 | some c => (compCode P h c).bind fun b => (compRes P h fn.results.toList).bind fun r =>
  bif fn.name == "runtime.NumGoroutine" then none else
  if fn.params.size + fn.nfree <= fn.ntmps /\ h.nt = fn.ntmps then some ⟨fn.params.size + fn.nfree, fn.ntmps, r, b⟩ else none
end
end Go.Sh
