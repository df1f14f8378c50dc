/- From the model's code to the shadow machine's. -/
import Derived.Test.YtpdkfleleebdaaaGreatDoorSh2
set_option linter.unusedVariables false
namespace Go.Sh
open Go
structure Hints where
 loc : List Nat
 der : List (Nat × Nat)
 live : List (Nat × List Nat)
 nt : Nat
def assoc {α : Type} : List (Nat × α) -> Nat -> Option α
 | [], _ => none
 | (i, x) :: l, k => bif Nat.beq i k then some x else assoc l k
def Hints.derOf (h : Hints) (t : Nat) : Option Nat := assoc h.der t
def Hints.isLoc (h : Hints) (t : Nat) : Bool := h.loc.any (Nat.beq t)
def Hints.clrOf (h : Hints) (t : Nat) : List Nat := (h.der.filter fun p => Nat.beq p.2 t).map (·.1)
def svCell : Value -> Option SV
 | .bool b => some (.bool b)
 | .int k n => some (.int k n)
 | .string s => some (.str s.data.toList)
 | .slice none 0 0 => some (.slice nilSl)
 | .pointer none => some .nilp
 | .nilFunc => some .nilf
 | _ => none
def svCells : List Value -> Option (List SV)
 | [] => some []
 | v :: l => (svCell v).bind fun x => (svCells l).map (x :: ·)
def svOf : Value -> Option SV
 | .agg cs => (svCells cs.toList).map .agg
 | v => svCell v
def opd (h : Hints) : Operand -> Option Opd
 | .tmp t => bif h.isLoc t || (h.derOf t).isSome then none else some (.t t)
 | .const v => (svOf v).map .c
 | .global _ => none
 | .func f => some (.c (.fn f [] []))
def opds (h : Hints) : List Operand -> Option (List Opd)
 | [] => some []
 | x :: l => (opd h x).bind fun y => (opds h l).map (y :: ·)
section
variable (P : Program) (h : Hints)
def sizeT (t : TypeId) : Option Nat := (P.info? t).map (·.size)
def aggT (t : TypeId) : Option Bool :=
 match P.underlying t with
 | some (.struct _) => some true
 | some (.array _ _) => some true
 | some _ => some false
 | none => none
def zeroT (t : TypeId) : Option (List SV) := ((P.info? t).bind (·.zero)).bind fun v => svCells v.cells.toList
def zeroOf (t : TypeId) : Option (List SV) := (zeroT P t).bind fun z => (sizeT P t).bind fun n => if z.length = n then some z else none
def bytesT (t : TypeId) : Option Nat := (P.info? t).map (·.bytes)
def mkOp (o : Oper) (k : K) (args : List Opd) : Option (K × List Opd × Option Nat × List Nat) := some (k, args, o.dst, [])
def compBin (o : Oper) (op : BinOp) (t : TypeId) (x y : Operand) : Option (K × List Opd × Option Nat × List Nat) :=
 (opd h x).bind fun x => (opd h y).bind fun y =>
  match P.underlying t with
  | some (.int _) => mkOp o (.p (.bin op)) [x, y]
  | some .string => mkOp o (.p (.bin op)) [x, y]
  | some .bool => mkOp o (.p (.binB op)) [x, y]
  | some (.slice _) => mkOp o (.p (.binS op)) [x, y]
  | _ => none
def compConv (o : Oper) (src dst : TypeId) (x : Operand) : Option (K × List Opd × Option Nat × List Nat) :=
 (opd h x).bind fun x =>
  match P.underlying src, P.underlying dst with
  | some (.int _), some (.int k) => mkOp o (.p (.conv k)) [x]
  | some (.slice e), some .string => match P.underlying e with
   | some (.int .u8) => mkOp o (.r .str) [x]
   | _ => none
  | _, _ => none
def compBuiltin (o : Oper) (b : Builtin) (args : Array Operand) (ts : Array TypeId) : Option (K × List Opd × Option Nat × List Nat) :=
 (opds h args.toList).bind fun xs =>
  match b, ts.toList with
  | .len, [t] => match P.underlying t with
   | some (.slice _) => mkOp o (.p .len) xs
   | some .string => mkOp o (.p .slen) xs
   | _ => none
  | .append, [t, u] => match P.underlying t, P.underlying u with
   | some (.slice e), some (.slice _) => (zeroOf P e).bind fun z => (bytesT P e).bind fun by_ => mkOp o (.e (.append z.length by_)) xs
   | some (.slice e), some .string => (zeroOf P e).bind fun z => (bytesT P e).bind fun by_ => if z.length = 1 then mkOp o (.e (.appendStr by_)) xs else none
   | _, _ => none
  | .copy, [t, u] => match P.underlying t, P.underlying u with
   | some (.slice e), some (.slice _) => (sizeT P e).bind fun n => mkOp o (.e (.copy n)) xs
   | _, _ => none
  | .max, _ => mkOp o (.p .max) xs
  | .min, _ => mkOp o (.p .min) xs
  | _, _ => none
def compCall (o : Oper) (c : Call) : Option (K × List Opd × Option Nat × List Nat) :=
 match c.callee with
 | .builtin b => compBuiltin P h o b c.args c.argTypes
 | .value (.func f) => (opds h c.args.toList).bind fun xs => mkOp o (.call f) xs
 | .value (.tmp t) => (opds h c.args.toList).bind fun xs => mkOp o .callv (.t t :: xs)
 | _ => none
def compLoad (o : Oper) (t : TypeId) (x : Operand) : Option (K × List Opd × Option Nat × List Nat) :=
 (sizeT P t).bind fun n => (aggT P t).bind fun ag =>
  match x with
  | .tmp u =>
   bif h.isLoc u then mkOp o (.p (.lload 0 n ag)) [.t u]
   else match h.derOf u with
    | some b => mkOp o (.p (.lloadp n ag)) [.t b, .t u]
    | none => mkOp o (.r (.load n ag)) [.t u]
  | _ => none
def compStore (o : Oper) (t : TypeId) (x v : Operand) : Option (K × List Opd × Option Nat × List Nat) :=
 (sizeT P t).bind fun n => (opd h v).bind fun y =>
  match x, o.dst with
  | .tmp u, none =>
   bif h.isLoc u then some (.b (.store 0 n), [.t u, y], some u, [])
   else match h.derOf u with
    | some b => some (.b (.storep n), [.t b, .t u, y], some b, [])
    | none => some (.e (.store n), [.t u, y], none, [])
  | _, _ => none
def isDer (o : Oper) (u : Nat) : Bool := match o.dst with | some d => (match h.derOf d with | some b => Nat.beq b u | none => false) | none => false
def compField (o : Oper) (s : TypeId) (x : Operand) (f : Nat) : Option (K × List Opd × Option Nat × List Nat) :=
 match P.underlying s with
 | some (.struct fields) => match fields[f]? with
  | some fld => (sizeT P fld.type).bind fun n =>
   if n = 0 then none else
   match x with
   | .tmp u =>
    bif h.isLoc u then (bif isDer h o u then mkOp o (.p (.lfld fld.offset)) [.t u] else none)
    else match h.derOf u with
     | some b => bif isDer h o b then mkOp o (.p (.lfldp fld.offset)) [.t u] else none
     | none => mkOp o (.p (.fld fld.offset)) [.t u]
   | _ => none
  | none => none
 | _ => none
def compIndexAddr (o : Oper) (t : TypeId) (x i : Operand) : Option (K × List Opd × Option Nat × List Nat) :=
 (opd h i).bind fun i =>
 match P.underlying t with
 | some (.slice e) => (sizeT P e).bind fun n => (opd h x).bind fun x => mkOp o (.p (.idx n)) [x, i]
 | some (.array len e) => (sizeT P e).bind fun n =>
  match x with
  | .tmp u =>
   bif h.isLoc u then (bif isDer h o u then mkOp o (.p (.lidx len n)) [.t u, i] else none)
   else match h.derOf u with
    | some b => bif isDer h o b then mkOp o (.p (.lidxp len n)) [.t u, i] else none
    | none => mkOp o (.p (.pidx len n)) [.t u, i]
  | _ => none
 | _ => none
def compIndex (o : Oper) (t : TypeId) (x i : Operand) : Option (K × List Opd × Option Nat × List Nat) :=
 (opd h x).bind fun x => (opd h i).bind fun i =>
 match P.underlying t with
 | some .string => mkOp o (.p .stridx) [x, i]
 | some (.array len e) => (sizeT P e).bind fun n => (aggT P e).bind fun ag => mkOp o (.p (.indexv len n ag)) [x, i]
 | _ => none
def compFieldV (o : Oper) (s : TypeId) (x : Operand) (f : Nat) : Option (K × List Opd × Option Nat × List Nat) :=
 (opd h x).bind fun x =>
 match P.underlying s with
 | some (.struct fields) => match fields[f]? with
  | some fld => (sizeT P fld.type).bind fun n => (aggT P fld.type).bind fun ag => mkOp o (.p (.fieldv fld.offset n ag)) [x]
  | none => none
 | _ => none
def placesOf (fields : Array Field) : List (Nat × Operand) -> Option (List (Nat × Nat))
 | [] => some []
 | (i, _) :: l => (fields[i]?).bind fun f => (sizeT P f.type).bind fun n => (placesOf fields l).map ((f.offset, n) :: ·)
def sizesOk (fields : Array Field) : Bool := fields.toList.all fun f => (sizeT P f.type).isSome
def compBuild (o : Oper) (t : TypeId) (parts : Array (Nat × Operand)) : Option (K × List Opd × Option Nat × List Nat) :=
 (opds h (parts.toList.map (·.2))).bind fun xs => (zeroT P t).bind fun z =>
 match P.underlying t with
 | some (.struct fields) => (placesOf P fields parts.toList).bind fun ps => bif sizesOk P fields then mkOp o (.p (.build z ps)) xs else none
 | some (.array _ e) => (sizeT P e).bind fun n => mkOp o (.p (.build z (parts.toList.map fun p => (p.1 * n, n)))) xs
 | _ => none
def compBuildSlice (o : Oper) (t : TypeId) (len : Nat) (parts : Array (Nat × Operand)) : Option (K × List Opd × Option Nat × List Nat) :=
 (opds h (parts.toList.map (·.2))).bind fun xs =>
 match P.underlying t with
 | some (.slice e) => (zeroOf P e).bind fun z =>
  if 0 < z.length then mkOp o (.e (.build z.length (repeatL len z) (parts.toList.map fun p => (p.1 * z.length, z.length)))) xs else none
 | _ => none
def compMakeSlice (o : Oper) (t : TypeId) (l c : Operand) : Option (K × List Opd × Option Nat × List Nat) :=
 (opd h l).bind fun l => (opd h c).bind fun c =>
 match P.underlying t with
 | some (.slice e) => (zeroOf P e).bind fun z => (bytesT P e).bind fun by_ => mkOp o (.e (.make z.length by_ z)) [l, c]
 | _ => none
def optOpd : Option Operand -> Option (List Opd)
 | none => some []
 | some x => (opd h x).map fun y => [y]
def compSlice (o : Oper) (t : TypeId) (x : Operand) (lo hi mx : Option Operand) : Option (K × List Opd × Option Nat × List Nat) :=
 (opd h x).bind fun x => (optOpd h lo).bind fun a => (optOpd h hi).bind fun b => (optOpd h mx).bind fun c =>
 match P.underlying t with
 | some (.slice e) => (sizeT P e).bind fun n => mkOp o (.r (.slice n lo.isSome hi.isSome mx.isSome)) (x :: (a ++ (b ++ c)))
 | some .string => bif mx.isSome then none else mkOp o (.p (.strcut lo.isSome hi.isSome)) (x :: (a ++ b))
 | _ => none
def compK0 (o : Oper) : Option (K × List Opd × Option Nat × List Nat) :=
 match o.op with
 | .move x => (opd h x).bind fun x => mkOp o (.p .move) [x]
 | .assign x => (opd h x).bind fun x => mkOp o (.p .move) [x]
 | .pick c a b => (opd h c).bind fun c => (opd h a).bind fun a => (opd h b).bind fun b => mkOp o (.p .pick) [c, a, b]
 | .binOp op t x y _ => compBin P h o op t x y
 | .unOp op _ x => (opd h x).bind fun x => mkOp o (.p (.un op)) [x]
 | .convert s d x => compConv P h o s d x
 | .extract x i => (opd h x).bind fun x => mkOp o (.p (.ext i)) [x]
 | .call c => compCall P h o c
 | .load t x => compLoad P h o t x
 | .store t x v => compStore P h o t x v
 | .alloc t => (zeroOf P t).bind fun z =>
  match o.dst with
  | some d => bif h.isLoc d then some (.b (.alloc z), [], some d, h.clrOf d) else mkOp o (.e (.alloc z)) []
  | none => none
 | .box t x => (opd h x).bind fun x =>
  match o.dst with
  | some d => bif h.isLoc d then some (.b .box, [x], some d, h.clrOf d) else mkOp o (.e .box) [x]
  | none => none
 | .fieldAddr s x f => compField P h o s x f
 | .indexAddr t x i => compIndexAddr P h o t x i
 | .index t x i => compIndex P h o t x i
 | .field s x f => compFieldV P h o s x f
 | .build t ps => compBuild P h o t ps
 | .buildSlice t n ps => compBuildSlice P h o t n ps
 | .makeSlice t l c => compMakeSlice P h o t l c
 | .slice t x lo hi mx => compSlice P h o t x lo hi mx
 | .makeFunc (.func f) first captured => (opds h (first.toList ++ captured.toList)).bind fun xs => mkOp o (.p (.mkfn f first.size)) xs
 | .nilCheck x => (opd h x).bind fun x => mkOp o (.p .nilchk) [x]
 | _ => none
def compK (o : Oper) : Option (K × List Opd × Option Nat × List Nat) := match compK0 P h o with | some r => some r | none => mkOp o (.p .max) []
def sameOpt : Option Nat -> Option Nat -> Bool
 | none, none => true
 | some a, some b => Nat.beq a b
 | _, _ => false
def dstOk (o : Oper) (k : K) (d : Option Nat) : Bool := bif isSt k then o.dst.isNone else sameOpt d o.dst
def compOp (ops : Array Oper) (o : Oper) : Option Op :=
 (compK P h o).bind fun p =>
  bif dstOk o p.1 p.2.2.1 then
   match o.guard with
   | none => some ⟨p.1, p.2.1, p.2.2.1, p.2.2.2, none⟩
   | some (j, want) => ((ops[j]?).bind (·.dst)).map fun g => ⟨p.1, p.2.1, p.2.2.1, p.2.2.2, some (g, want)⟩
  else none
def compOps (ops : Array Oper) : List Oper -> Option (List Op)
 | [] => some []
 | o :: l => (compOp P h ops o).bind fun x => (compOps ops l).map (x :: ·)
def Op.isE (o : Op) : Bool := match o.k with | .e _ | .call _ | .callv => true | _ => false
def Op.isR (o : Op) : Bool := match o.k with | .r _ => true | _ => false
def Opd.slots : Opd -> List Nat
 | .t n => [n]
 | .c _ => []
def Op.reads (o : Op) : List Nat := (match o.guard with | some (g, _) => [g] | none => []) ++ o.args.flatMap Opd.slots
def Op.writes (o : Op) : List Nat := (match o.dst with | some d => [d] | none => []) ++ o.clr
def precs (ops : List Oper) : List (List Nat) :=
 (ops.foldl (init := []) fun (acc : List (List Nat)) o =>
  acc ++ [o.after.toList.flatMap fun e => bif Region.binds .any e then e.on :: (acc.getD e.on []) else []])
def memN (l : List Nat) (n : Nat) : Bool := l.any (Nat.beq n)
def meets (a b : List Nat) : Bool := a.any (memN b)
def pairOk (a b : Op) : Bool :=
 !meets a.writes b.reads && !meets a.writes b.writes && !meets a.reads b.writes && !(a.isE && b.isE)
def pairsOf (l : List Op) (pr : List (List Nat)) : List (Nat × Nat × Op × Op) :=
 let li := l.zipIdx
 li.flatMap fun (b, j) => (li.filter fun (_, i) => Nat.blt i j && !memN (pr.getD j []) i).map fun (a, i) => (i, j, a, b)
def drawPairs (l : List Op) (pr : List (List Nat)) : List (Nat × Nat) :=
 (pairsOf l pr).flatMap fun (i, j, a, b) =>
  (bif a.isR && b.isE then [(i, j)] else []) ++ (bif a.isE && b.isR then [(j, i)] else [])
def edgesOk (ops : List Oper) : Bool :=
 ops.zipIdx.all fun (o, i) => o.after.toList.all fun e => !Region.binds .any e || Nat.blt e.on i
def drawOk (l : List Op) (pr : List (List Nat)) : Bool := (pairsOf l pr).all fun (_, _, a, b) => pairOk a b
def firstRegion : Code -> Nat
 | .region id _ _ => id
 | .seq a _ => firstRegion a
 | .block _ c => firstRegion c
 | .loop c => firstRegion c
 | .scope c => firstRegion c
 | _ => 0
def compCode : Code -> Option CC
 | .skip => some .skip
 | .ret => some .ret
 | .region _ ops false => (compOps P h ops ops.toList).map .ops
 | .region _ ops true => (compOps P h ops ops.toList).bind fun l =>
  let pr := precs ops.toList
  bif edgesOk ops.toList && drawOk l pr then some (.draw l (drawPairs l pr)) else none
 | .seq a b => (compCode a).bind fun a => (compCode b).map fun b => .seq a b
 | .cond c a b => (opd h c).bind fun c => (compCode a).bind fun a => (compCode b).map fun b => .cond c a b
 | .block id c => (compCode c).map (.block id)
 | .loop c => (compCode c).map (.loop ((assoc h.live (firstRegion c)).getD []) h.nt)
 | .exit id => some (.exit id)
 | .label _ => some .skip
 | .scope c => (compCode c).map .scope
 | _ => none
def compRes : List ResultVar -> Option (List Res)
 | [] => some []
 | .tmp t :: l => (compRes l).map (.t t :: ·)
 | .cell t ty :: l => (sizeT P ty).bind fun n => (aggT P ty).bind fun ag => bif h.isLoc t then (compRes l).map (.cell t n ag :: ·) else none
def compFn (fn : Func) : Option Fn :=
 match fn.body with
 | none => none
 | some c => (compCode P h c).bind fun b => (compRes P h fn.results.toList).bind fun r =>
  bif fn.name == "runtime.NumGoroutine" then none else
  if fn.params.size + fn.nfree <= fn.ntmps /\ h.nt = fn.ntmps then some ⟨fn.params.size + fn.nfree, fn.ntmps, r, b⟩ else none
end
end Go.Sh
