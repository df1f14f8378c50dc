/- The shadow machine: values, heap, operations (plain Lean; no program in sight). -/
import GoSem.Core.Ast
import GoSem.Core.View
import GoSem.Core.Code
import GoSem.Op.String
import GoSem.Op.IntBits
set_option linter.unusedVariables false
namespace Go.Sh
structure Sl where
 base : Option (Nat × Nat)
 len : Nat
 cap : Option Nat
 alt : Nat
inductive SV where
 | junk
 | undef
 | bool (b : Bool)
 | int (k : IntKind) (n : Int)
 | str (s : List UInt8)
 | slice (s : Sl)
 | ptr (p : Nat × Nat)
 | nilp
 | fn (f : Nat) (bound caps : List SV)
 | nilf
 | agg (cs : List SV)
 | tuple (vs : List SV)
 | box (cs : List SV)
 | lptr (o : Nat)
def nilSl : Sl := ⟨none, 0, none, 0⟩
structure Row where
 kind : Nat
 esz : Nat
 ver : Nat
 cells : List SV
inductive Tr where
 | nil
 | node (v : Option Row) (l r : Tr)
def Tr.get : Tr -> Nat -> Option Row
 | .nil, _ => none
 | .node v l r, n => match n with
  | 0 => v
  | m + 1 => bif Nat.beq (m % 2) 0 then l.get (m / 2) else r.get (m / 2)
def Tr.val : Tr -> Option Row
 | .nil => none
 | .node v _ _ => v
def Tr.left : Tr -> Tr
 | .nil => .nil
 | .node _ l _ => l
def Tr.right : Tr -> Tr
 | .nil => .nil
 | .node _ _ r => r
def Tr.setF (row : Row) : Nat -> Tr -> Nat -> Tr
 | 0, t, _ => t
 | f + 1, t, n => match n with
  | 0 => .node (some row) t.left t.right
  | m + 1 => bif Nat.beq (m % 2) 0 then .node t.val (Tr.setF row f t.left (m / 2)) t.right else .node t.val t.left (Tr.setF row f t.right (m / 2))
structure Heap where
 size : Nat
 rows : Tr
def Heap.get (H : Heap) (r : Nat) : Option Row := bif Nat.blt r H.size then H.rows.get r else none
def Heap.push (H : Heap) (row : Row) : Heap := ⟨H.size + 1, H.rows.setF row (H.size + 1) H.size⟩
def Heap.set (H : Heap) (r : Nat) (row : Row) : Heap := ⟨H.size, H.rows.setF row (r + 1) r⟩
def SV.cells : SV -> List SV
 | .agg cs => cs
 | v => [v]
def SV.good : SV -> Bool
 | .junk => false
 | .box _ => false
 | .lptr _ => false
 | _ => true
def SV.flat : SV -> Bool
 | .bool _ | .int _ _ | .str _ | .slice _ | .ptr _ | .nilp | .fn _ _ _ | .nilf => true
 | _ => false
def SV.item : SV -> Bool
 | .agg _ => true
 | v => v.flat
def cut (cs : List SV) (o n : Nat) : Option (List SV) :=
 bif Nat.ble (o + n) cs.length then some ((cs.drop o).take n) else none
def splice (cs : List SV) (o : Nat) (vs : List SV) : Option (List SV) :=
 bif Nat.ble (o + vs.length) cs.length then some (cs.take o ++ (vs ++ cs.drop (o + vs.length))) else none
def shaped (agg : Bool) (cs : List SV) : Option SV :=
 match agg, cs with
 | true, cs => some (.agg cs)
 | false, [v] => some v
 | false, _ => none
def Heap.read (H : Heap) (r o n : Nat) : Option (List SV) :=
 match H.get r with
 | some row => bif Nat.beq row.kind 0 then none else cut row.cells o n
 | none => none
def Heap.write (H : Heap) (r o : Nat) (vs : List SV) : Option Heap :=
 match H.get r with
 | some row => bif Nat.beq row.kind 2 then (splice row.cells o vs).map fun cs => H.set r { row with ver := row.ver + 1, cells := cs } else none
 | none => none
def Heap.kill (H : Heap) (r : Nat) (row : Row) : Heap := H.set r { row with kind := 0, ver := row.ver + 1 }
def Heap.ver (H : Heap) (r : Nat) : Option Nat := (H.get r).map (·.ver)
def Heap.elems (H : Heap) (sz : Nat) (s : Sl) : Option (List SV) :=
 bif Nat.beq s.len 0 then some [] else
 match s.base with
 | none => none
 | some (r, o) => H.read r o (s.len * sz)
def wrapB (k : IntKind) (n : Int) : SV := .int k (k.wrap n)
def bitsOp (op : BinOp) (k : IntKind) (x y : Int) : Option SV :=
 let a := BitVec.ofInt k.bits x
 let b := BitVec.ofInt k.bits y
 match op with
 | .and => some (wrapB k (a &&& b).toNat)
 | .or => some (wrapB k (a ||| b).toNat)
 | .xor => some (wrapB k (a ^^^ b).toNat)
 | .andNot => some (wrapB k (a &&& ~~~b).toNat)
 | _ => none
def intOp (op : BinOp) (k : IntKind) (x y : Int) : Option SV :=
 match op with
 | .add => some (wrapB k (x + y))
 | .sub => some (wrapB k (x - y))
 | .mul => some (wrapB k (x * y))
 | .quo => if y = 0 then none else some (wrapB k (x.tdiv y))
 | .rem => if y = 0 then none else some (.int k (x.tmod y))
 | .eql => some (.bool (x == y))
 | .neq => some (.bool (x != y))
 | .lss => some (.bool (decide (x < y)))
 | .leq => some (.bool (decide (x <= y)))
 | .gtr => some (.bool (decide (x > y)))
 | .geq => some (.bool (decide (x >= y)))
 | .shl => none
 | .shr => none
 | _ => bitsOp op k x y
def shiftOp (op : BinOp) (k : IntKind) (x y : Int) : Option SV :=
 if y < 0 then none else
 match op with
 | .shl => some (wrapB k (x * 2 ^ min y.toNat k.bits))
 | .shr => some (.int k (x.fdiv (2 ^ min y.toNat k.bits)))
 | _ => none
def strOp (op : BinOp) (x y : List UInt8) : Option SV :=
 match op with
 | .add => bif Nat.ble (x.length + y.length) 4611686018427387904 then some (.str (x ++ y)) else none
 | .eql => some (.bool (x == y))
 | .neq => some (.bool (!(x == y)))
 | .lss => some (.bool (Op.bytesLess x y))
 | .leq => some (.bool (Op.bytesLess x y || x == y))
 | .gtr => some (.bool (!(Op.bytesLess x y || x == y)))
 | .geq => some (.bool (!Op.bytesLess x y))
 | _ => none
def kindEq : IntKind -> IntKind -> Bool
 | .i8, .i8 | .i16, .i16 | .i32, .i32 | .i64, .i64 | .u8, .u8 | .u16, .u16 | .u32, .u32 | .u64, .u64 => true
 | _, _ => false
def binOp (op : BinOp) (x y : SV) : Option SV :=
 match x, y with
 | .int k a, .int k' b =>
  match op with
  | .shl => shiftOp .shl k a b
  | .shr => shiftOp .shr k a b
  | op => bif kindEq k k' then intOp op k a b else none
 | .str a, .str b => strOp op a b
 | _, _ => none
def binB (op : BinOp) (x y : SV) : Option SV :=
 match x, y with
 | .bool a, .bool b => match op with | .eql => some (.bool (a == b)) | .neq => some (.bool (!(a == b))) | _ => none
 | _, _ => none
def nilEq (s t : Sl) : Option Bool :=
 match s.base, t.base with
 | none, _ => some t.base.isNone
 | _, none => some s.base.isNone
 | _, _ => none
def binS (op : BinOp) (x y : SV) : Option SV :=
 match x, y with
 | .slice s, .slice t =>
  match op with
  | .eql => (nilEq s t).map .bool
  | .neq => (nilEq s t).map fun b => .bool (!b)
  | _ => none
 | _, _ => none
def unOp (op : UnOp) (x : SV) : Option SV :=
 match op, x with
 | .neg, .int k n => some (wrapB k (0 - n))
 | .xor, .int k n => bitsOp .xor k (if k.signed then -1 else k.max) n
 | .not, .bool b => some (.bool (!b))
 | _, _ => none
def fillS (zero : List SV) : List (Nat × Nat × SV) -> Option (List SV)
 | [] => some zero
 | (off, size, v) :: rest =>
  bif v.item && Nat.beq v.cells.length size then
   match splice zero off v.cells with
   | some cs => fillS cs rest
   | none => none
  else none
def maxFrom (k : IntKind) (a : Int) : List SV -> Option SV
 | [] => some (.int k a)
 | .int _ b :: rest => maxFrom k (if b > a then b else a) rest
 | _ :: _ => none
def minFrom (k : IntKind) (a : Int) : List SV -> Option SV
 | [] => some (.int k a)
 | .int _ b :: rest => minFrom k (if b < a then b else a) rest
 | _ :: _ => none
def maxI : List SV -> Option SV
 | .int k a :: rest => maxFrom k a rest
 | _ => none
def minI : List SV -> Option SV
 | .int k a :: rest => minFrom k a rest
 | _ => none
inductive PK where
 | move
 | pick
 | bin (op : BinOp)
 | binB (op : BinOp)
 | binS (op : BinOp)
 | un (op : UnOp)
 | conv (k : IntKind)
 | len
 | slen
 | ext (i : Nat)
 | idx (sz : Nat)
 | pidx (len sz : Nat)
 | fld (off : Nat)
 | fieldv (off n : Nat) (agg : Bool)
 | indexv (len sz : Nat) (agg : Bool)
 | build (zero : List SV) (places : List (Nat × Nat))
 | stridx
 | strcut (lo hi : Bool)
 | mkfn (f nfirst : Nat)
 | max
 | min
 | lload (off n : Nat) (agg : Bool)
 | lloadp (n : Nat) (agg : Bool)
 | lfld (off : Nat)
 | lfldp (off : Nat)
 | lidx (len sz : Nat)
 | lidxp (len sz : Nat)
 | nilchk
def listIdx (l : List SV) (i : Nat) : Option SV := l[i]?
def opP (k : PK) (xs : List SV) : Option SV :=
 match k, xs with
 | .move, [x] => some x
 | .pick, [c, x, y] => match c with | .bool true => some x | .bool false => some y | _ => none
 | .bin op, [x, y] => binOp op x y
 | .binB op, [x, y] => binB op x y
 | .binS op, [x, y] => binS op x y
 | .un op, [x] => unOp op x
 | .conv k, [.int _ n] => some (wrapB k n)
 | .len, [.slice s] => some (.int .i64 s.len)
 | .slen, [.str s] => some (.int .i64 s.length)
 | .ext i, [.tuple vs] => listIdx vs i
 | .idx sz, [.slice s, .int _ i] =>
  if 0 <= i /\ i < s.len then match s.base with | some p => some (.ptr (p.1, p.2 + i.toNat * sz)) | none => none else none
 | .pidx len sz, [.ptr p, .int _ i] => if 0 <= i /\ i < len then some (.ptr (p.1, p.2 + i.toNat * sz)) else none
 | .fld off, [.ptr p] => some (.ptr (p.1, p.2 + off))
 | .fieldv off n agg, [.agg cs] => (cut cs off n).bind (shaped agg)
 | .indexv len sz agg, [.agg cs, .int _ i] => if 0 <= i /\ i < len then (cut cs (i.toNat * sz) sz).bind (shaped agg) else none
 | .build zero places, xs => bif Nat.beq places.length xs.length then (fillS zero ((places.zip xs).map fun p => (p.1.1, p.1.2, p.2))).map .agg else none
 | .stridx, [.str s, .int _ i] => if 0 <= i then match s[i.toNat]? with | some b => some (.int .u8 b.toNat) | none => none else none
 | .strcut true true, [.str s, .int _ a, .int _ b] => if 0 <= b /\ b <= s.length /\ 0 <= a /\ a <= b then some (.str ((s.take b.toNat).drop a.toNat)) else none
 | .strcut true false, [.str s, .int _ a] => if 0 <= a /\ a <= s.length then some (.str (s.drop a.toNat)) else none
 | .strcut false true, [.str s, .int _ b] => if 0 <= b /\ b <= s.length then some (.str (s.take b.toNat)) else none
 | .mkfn f nfirst, xs => bif xs.all SV.good then some (.fn f (xs.take nfirst) (xs.drop nfirst)) else none
 | .max, xs => maxI xs
 | .min, xs => minI xs
 | .lload off n agg, [.box cs] => (cut cs off n).bind (shaped agg)
 | .lloadp n agg, [.box cs, .lptr o] => (cut cs o n).bind (shaped agg)
 | .lfld off, [.box _] => some (.lptr off)
 | .lfldp off, [.lptr o] => some (.lptr (o + off))
 | .lidx len sz, [.box _, .int _ i] => if 0 <= i /\ i < len then some (.lptr (i.toNat * sz)) else none
 | .lidxp len sz, [.lptr o, .int _ i] => if 0 <= i /\ i < len then some (.lptr (o + i.toNat * sz)) else none
 | .nilchk, [.ptr p] => some (.ptr p)
 | .nilchk, [.fn f b c] => some (.fn f b c)
 | _, _ => none
inductive BK where
 | alloc (zero : List SV)
 | box
 | store (off n : Nat)
 | storep (n : Nat)
def opB (k : BK) (xs : List SV) : Option (List SV) :=
 match k, xs with
 | .alloc zero, [] => some zero
 | .box, [x] => bif x.item then some x.cells else none
 | .store off n, [.box cs, x] => bif x.item && Nat.beq x.cells.length n then splice cs off x.cells else none
 | .storep n, [.box cs, .lptr o, x] => bif x.item && Nat.beq x.cells.length n then splice cs o x.cells else none
 | _, _ => none
inductive RK where
 | load (n : Nat) (agg : Bool)
 | slice (sz : Nat) (lo hi mx : Bool)
 | str
def capOf (H : Heap) (sz : Nat) (s : Sl) : Option Nat :=
 match s.cap with
 | some c => some c
 | none => match s.base with
  | none => some 0
  | some (r, o) => match H.get r with
   | some row => bif Nat.beq row.kind 0 || !Nat.beq row.esz sz then none else some ((row.cells.length - o) / sz)
   | none => none
def fitsCap (H : Heap) (sz : Nat) (s : Sl) (m : Int) : Bool :=
 decide (m <= s.len) || (match capOf H sz s with | some c => decide (m <= c) | none => false)
def subSl (sz : Nat) (s : Sl) (a n : Nat) (cap : Option Nat) : Sl :=
 match a with
 | 0 => { s with len := n, cap := cap }
 | a + 1 => match s.base with
  | none => { s with len := n, cap := cap }
  | some p => ⟨some (p.1, p.2 + (a + 1) * sz), n, cap, p.2⟩
def eszOk (H : Heap) (sz : Nat) (s : Sl) (a : Int) : Bool :=
 decide (a = 0) || s.cap.isSome || (match s.base with
  | none => true
  | some p => match H.get p.1 with
   | some row => !Nat.beq row.kind 0 && Nat.beq row.esz sz && Nat.ble 1 sz
   | none => false)
def loOf : Option SV -> Option Int
 | none => some 0
 | some (.int _ b) => some b
 | some _ => none
def sliceOp (H : Heap) (sz : Nat) (s : Sl) (lo hi mx : Option SV) : Option SV :=
 match loOf lo, hi, mx with
 | some a, none, none =>
  if 0 <= a /\ a <= s.len /\ eszOk H sz s a = true then some (.slice (subSl sz s a.toNat (s.len - a.toNat) (s.cap.map (· - a.toNat)))) else none
 | some a, some (.int _ b), none =>
  if 0 <= a /\ a <= b /\ fitsCap H sz s b = true /\ eszOk H sz s a = true then some (.slice (subSl sz s a.toNat (b - a).toNat (s.cap.map (· - a.toNat)))) else none
 | some a, some (.int _ b), some (.int _ m) =>
  if 0 <= a /\ a <= b /\ b <= m /\ fitsCap H sz s m = true /\ (0 < m \/ s.base.map (·.2) = some s.alt \/ s.base = none) then some (.slice (subSl sz s a.toNat (b - a).toNat (some (m - a).toNat))) else none
 | _, _, _ => none
def bytesOf : List SV -> Option (List UInt8)
 | [] => some []
 | .int .u8 n :: rest => (bytesOf rest).map (UInt8.ofNat n.toNat :: ·)
 | _ :: _ => none
def opR (k : RK) (xs : List SV) (H : Heap) : Option SV :=
 match k, xs with
 | .load n agg, [.ptr p] => (H.read p.1 p.2 n).bind (shaped agg)
 | .slice sz false false false, [.slice s] => sliceOp H sz s none none none
 | .slice sz true false false, [.slice s, a] => sliceOp H sz s (some a) none none
 | .slice sz false true false, [.slice s, b] => sliceOp H sz s none (some b) none
 | .slice sz true true false, [.slice s, a, b] => sliceOp H sz s (some a) (some b) none
 | .slice sz false true true, [.slice s, b, c] => sliceOp H sz s none (some b) (some c)
 | .slice sz true true true, [.slice s, a, b, c] => sliceOp H sz s (some a) (some b) (some c)
 | .str, [.slice s] => ((H.elems 1 s).bind bytesOf).map .str
 | _, _ => none
inductive EK where
 | store (n : Nat)
 | append (sz bytes : Nat)
 | appendStr (bytes : Nat)
 | copy (sz : Nat)
 | build (sz : Nat) (zero : List SV) (places : List (Nat × Nat))
 | make (sz bytes : Nat) (zero : List SV)
 | alloc (zero : List SV)
 | box
def roomy (need bytes : Nat) : Bool := Nat.ble ((4 * need + 4096) * (bytes + 1)) 70368744177664
def newRow (sz : Nat) (cs : List SV) : Row := ⟨2, sz, 0, cs⟩
def capZero : Option Nat -> Bool
 | none => true
 | some c => Nat.beq c 0
def capRoom (cap : Option Nat) (need o sz len : Nat) : Bool :=
 match cap with
 | none => true
 | some c => Nat.blt c need || Nat.ble (o + c * sz) len
def appendOp (H : Heap) (sz bytes : Nat) (s : Sl) (n : Nat) (src : List SV) : Option (SV × Heap) :=
 bif Nat.ble 1 sz && roomy (s.len + n) bytes then
  bif Nat.beq n 0 then some (.slice s, H) else
  match s.base with
  | none =>
   bif Nat.beq s.len 0 && capZero s.cap then
    some (.slice ⟨some (H.size, 0), n, none, 0⟩, H.push (newRow sz src))
   else none
  | some (r, o) =>
   match H.get r with
   | some row =>
    bif Nat.beq row.kind 2 && Nat.beq row.esz sz && Nat.beq (o % sz) 0
      && capRoom s.cap (s.len + n) o sz row.cells.length then
     (cut row.cells o (s.len * sz)).map fun old =>
      (.slice ⟨some (H.size, 0), s.len + n, none, 0⟩, (H.kill r row).push (newRow sz (old ++ src)))
    else none
   | none => none
 else none
def repeatL (n : Nat) (zero : List SV) : List SV := (List.replicate n zero).flatten
def opE (k : EK) (xs : List SV) (H : Heap) : Option (SV × Heap) :=
 match k, xs with
 | .store n, [.ptr p, x] => bif x.item && Nat.beq x.cells.length n then (H.write p.1 p.2 x.cells).map fun H' => (.undef, H') else none
 | .append sz bytes, [.slice s, .slice x] => (H.elems sz x).bind fun src => appendOp H sz bytes s x.len src
 | .appendStr bytes, [.slice s, .str x] => appendOp H 1 bytes s x.length (x.map fun b => .int .u8 b.toNat)
 | .copy sz, [.slice s, .slice x] =>
  let n := min x.len s.len
  (H.elems sz { x with len := n }).bind fun src =>
   match s.base with
   | none => some (.int .i64 n, H)
   | some (r, o) => (H.write r o src).map fun H' => (.int .i64 n, H')
 | .build sz zero places, xs =>
  bif Nat.beq places.length xs.length && Nat.ble 1 sz && Nat.ble zero.length 1000000 then
   (fillS zero ((places.zip xs).map fun p => (p.1.1, p.1.2, p.2))).map fun cs =>
    (.slice ⟨some (H.size, 0), zero.length / sz, none, 0⟩, H.push (newRow sz cs))
  else none
 | .make sz bytes zero, [.int _ l, .int _ c] =>
  if 0 <= l /\ l <= c /\ c <= 1099511627776 /\ roomy c.toNat bytes = true /\ 0 < sz then
   some (.slice ⟨some (H.size, 0), l.toNat, none, 0⟩, H.push (newRow sz (repeatL c.toNat zero)))
  else none
 | .alloc zero, [] => some (.ptr (H.size, 0), H.push (newRow 1 zero))
 | .box, [x] => bif x.item then some (.ptr (H.size, 0), H.push (newRow 1 x.cells)) else none
 | _, _ => none
inductive Opd where
 | t (n : Nat)
 | c (v : SV)
inductive K where
 | p (k : PK)
 | b (k : BK)
 | r (k : RK)
 | e (k : EK)
 | call (f : Nat)
 | callv
structure Op where
 k : K
 args : List Opd
 dst : Option Nat
 clr : List Nat
 guard : Option (Nat × Bool)
inductive CC where
 | skip
 | ret
 | ops (l : List Op)
 | draw (l : List Op) (pairs : List (Nat × Nat))
 | seq (a b : CC)
 | cond (c : Opd) (a b : CC)
 | block (id : Nat) (c : CC)
 | loop (live : List Nat) (nt : Nat) (c : CC)
 | exit (id : Nat)
 | scope (c : CC)
abbrev Tmps := List SV
def getT (T : Tmps) (n : Nat) : SV := T.getD n .junk
def Opd.ev (T : Tmps) : Opd -> SV
 | .t n => getT T n
 | .c v => v
def setD (T : Tmps) : Option Nat -> SV -> Tmps
 | some d, v => T.set d v
 | none, _ => T
def clear (T : Tmps) : List Nat -> Tmps
 | [] => T
 | n :: l => clear (T.set n .junk) l
def proj (T : Tmps) : List Nat -> List SV
 | [] => []
 | n :: l => getT T n :: proj T l
def placeOf : List Nat -> Nat -> Option Nat
 | [], _ => none
 | n :: l, k => bif Nat.beq n k then some 0 else (placeOf l k).map (· + 1)
def unprojFrom (live : List Nat) (vs : List SV) : Nat -> Nat -> Tmps
 | 0, _ => []
 | n + 1, i => (match placeOf live i with | some j => getT vs j | none => .junk) :: unprojFrom live vs n (i + 1)
def unproj (nt : Nat) (live : List Nat) (vs : List SV) : Tmps := unprojFrom live vs nt 0
abbrev CallF (R : Type) := Nat -> List SV -> Heap -> (SV -> Heap -> Option R) -> Option R
section
variable {R : Type}
def callV (call : CallF R) (xs : List SV) (H : Heap) (k : SV -> Heap -> Option R) : Option R :=
 match xs with
 | .fn f bound caps :: args => call f (bound ++ (args ++ caps)) H k
 | _ => none
def Op.run (call : CallF R) (o : Op) (T : Tmps) (H : Heap) (k : Tmps -> Heap -> Option R) : Option R :=
 let fin (y : SV) (H : Heap) : Option R := k (setD (clear T o.clr) o.dst y) H
 match o.k with
 | .p pk => (opP pk (o.args.map (·.ev T))).bind fun y => fin y H
 | .b bk => (opB bk (o.args.map (·.ev T))).bind fun cs => fin (.box cs) H
 | .r rk => (opR rk (o.args.map (·.ev T)) H).bind fun y => fin y H
 | .e ek => (opE ek (o.args.map (·.ev T)) H).bind fun p => fin p.1 p.2
 | .call f => call f (o.args.map (·.ev T)) H fin
 | .callv => callV call (o.args.map (·.ev T)) H fin
def condK (v : SV) (A B : Option R) : Option R :=
 match v with
 | .bool true => A
 | .bool false => B
 | _ => none
def guardK (v : SV) (F : Bool -> Option R) (U : Option R) : Option R :=
 match v with
 | .bool true => F true
 | .bool false => F false
 | .undef => U
 | _ => none
def boolEq : Bool -> Bool -> Bool
 | true, true => true
 | false, false => true
 | _, _ => false
def isSt : K -> Bool
 | .b (.store _ _) => true
 | .b (.storep _) => true
 | _ => false
def Op.skipT (o : Op) (T : Tmps) : Tmps := bif isSt o.k then T else setD T o.dst .undef
def Op.step (call : CallF R) (o : Op) (T : Tmps) (H : Heap) (k : Tmps -> Heap -> Option R) : Option R :=
 match o.guard with
 | none => o.run call T H k
 | some (g, want) => guardK (getT T g) (fun b =>
  bif boolEq b want then o.run call (T.set g (.bool b)) H k else k (o.skipT (T.set g (.bool b))) H) (k (o.skipT (T.set g .undef)) H)
def runOps (call : CallF R) : List Op -> Tmps -> Heap -> (Tmps -> Heap -> Option R) -> Option R
 | [], T, H, k => k T H
 | o :: l, T, H, k => o.step call T H fun T H => runOps call l T H k
abbrev Trace := List (SV × Heap × Heap)
def Op.first (o : Op) (T : Tmps) : SV := match o.args with | x :: _ => x.ev T | [] => .undef
def rowOf : SV -> Option Nat
 | .ptr p => some p.1
 | .slice s => s.base.map (·.1)
 | _ => none
def verEq : Option Nat -> Option Nat -> Bool
 | some a, some b => Nat.beq a b
 | none, none => true
 | _, _ => false
def sameRow (x : SV) (H H' : Heap) : Bool :=
 match rowOf x with
 | some r => verEq (H.ver r) (H'.ver r)
 | none => true
def checkP (tr : Trace) (t : Option R) : List (Nat × Nat) -> Option R
 | [] => t
 | (i, e) :: ps =>
  match tr[i]?, tr[e]? with
  | some (x, _, _), some (_, H, H') => bif sameRow x H H' then checkP tr t ps else none
  | _, _ => none
def runDraw (call : CallF R) (pairs : List (Nat × Nat)) : List Op -> Trace -> Tmps -> Heap -> (Tmps -> Heap -> Option R) -> Option R
 | [], tr, T, H, k => checkP tr.reverse (k T H) pairs
 | o :: l, tr, T, H, k => o.step call T H fun T' H' => runDraw call pairs l ((o.first T, H, H') :: tr) T' H' k
def loopN (body : List SV -> Heap -> (List SV -> Heap -> Option R) -> Option R) : Nat -> List SV -> Heap -> Option R
 | 0, _, _ => none
 | n + 1, vs, H => body vs H (loopN body n)
def exec (K : Nat) (call : CallF R) : CC -> Tmps -> Heap -> (kn : Tmps -> Heap -> Option R) -> (ke : Nat -> Tmps -> Heap -> Option R) -> (kr : Tmps -> Heap -> Option R) -> Option R
 | .skip, T, H, kn, _, _ => kn T H
 | .ret, T, H, _, _, kr => kr T H
 | .ops l, T, H, kn, _, _ => runOps call l T H kn
 | .draw l pairs, T, H, kn, _, _ => runDraw call pairs l [] T H kn
 | .seq a b, T, H, kn, ke, kr => exec K call a T H (fun T H => exec K call b T H kn ke kr) ke kr
 | .cond c a b, T, H, kn, ke, kr => condK (c.ev T) (exec K call a T H kn ke kr) (exec K call b T H kn ke kr)
 | .block id c, T, H, kn, ke, kr => exec K call c T H kn (fun i T H => bif Nat.beq i id then kn T H else ke i T H) kr
 | .loop live nt c, T, H, _, ke, kr => loopN (fun vs H k => exec K call c (unproj nt live vs) H (fun T' H' => k (proj T' live) H') ke kr) K (proj T live) H
 | .exit id, T, H, _, ke, _ => ke id T H
 | .scope c, T, H, kn, ke, kr => exec K call c T H kn ke kr
end
inductive Res where
 | t (n : Nat)
 | cell (n size : Nat) (agg : Bool)
structure Fn where
 nparams : Nat
 ntmps : Nat
 res : List Res
 body : CC
def Res.slot : Res -> Nat
 | .t n => n
 | .cell n _ _ => n
def Res.of : Res -> SV -> Option SV
 | .t _, v => bif v.good then some v else none
 | .cell _ size agg, v => match v with | .box cs => (cut cs 0 size).bind (shaped agg) | _ => none
def oneOf : List SV -> SV
 | [v] => v
 | vs => .tuple vs
def resK {R : Type} (T : Tmps) : List Res -> (List SV -> Option R) -> Option R
 | [], k => k []
 | r :: l, k => (r.of (getT T r.slot)).bind fun v => resK T l fun vs => k (v :: vs)
def retK (res : List Res) (T : Tmps) (H : Heap) : Option (SV × Heap) := resK T res fun vs => some (oneOf vs, H)
abbrev CallC := Nat -> List SV -> Heap -> Option (SV × Heap)
def viaC {R : Type} (C : CallC) : CallF R := fun g xs H k => (C g xs H).bind fun p => k p.1 p.2
def runFn (fn : Fn) (K : Nat) (C : CallC) (args : List SV) (H : Heap) : Option (SV × Heap) :=
 exec K (viaC C) fn.body (args ++ List.replicate (fn.ntmps - fn.nparams) .junk) H (retK fn.res) (fun _ _ _ => none) (retK fn.res)
def run (fns : Nat -> Option Fn) (K : Nat) : Nat -> CallC
 | 0, _, _, _ => none
 | d + 1, f, args, H =>
  match fns f with
  | none => none
  | some fn => bif Nat.beq args.length fn.nparams then runFn fn K (run fns K d) args H else none
end Go.Sh
