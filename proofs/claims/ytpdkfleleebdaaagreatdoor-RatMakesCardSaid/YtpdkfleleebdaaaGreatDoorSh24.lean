/- The operations as a record of small functions (each is handed what comes behind it): those of the machine, and faster ones that answer the same. -/
import Derived.Test.YtpdkfleleebdaaaGreatDoorSh22
set_option linter.unusedVariables false
namespace Go.Sh
open Go
abbrev Rs := Option (SV × Heap)
abbrev K1 := SV -> Rs
abbrev KH := SV -> Heap -> Rs
abbrev B2 := SV -> SV -> K1 -> Rs
def callK (x : Rs) (k : KH) : Rs := x.bind fun p => k p.1 p.2
structure Ops where
 cond : SV -> Rs -> Rs -> Rs
 guard : SV -> Rs -> Rs -> Rs -> Rs
 pick : SV -> SV -> SV -> K1 -> Rs
 add : B2
 sub : B2
 mul : B2
 quo : B2
 rem : B2
 eql : B2
 neq : B2
 lss : B2
 leq : B2
 gtr : B2
 geq : B2
 shl : B2
 shr : B2
 and : B2
 or : B2
 xor : B2
 andNot : B2
 b_eql : B2
 b_neq : B2
 s_eql : B2
 s_neq : B2
 u_neg : SV -> K1 -> Rs
 u_xor : SV -> K1 -> Rs
 u_not : SV -> K1 -> Rs
 conv : IntKind -> SV -> K1 -> Rs
 len : SV -> K1 -> Rs
 slen : SV -> K1 -> Rs
 ext : Nat -> SV -> K1 -> Rs
 idx : Nat -> B2
 pidx : Nat -> Nat -> B2
 fld : Nat -> SV -> K1 -> Rs
 fieldv : Nat -> Nat -> Bool -> SV -> K1 -> Rs
 indexv : Nat -> Nat -> Bool -> B2
 build : List SV -> List (Nat × Nat) -> List SV -> K1 -> Rs
 stridx : B2
 strcut11 : SV -> SV -> SV -> K1 -> Rs
 strcut10 : B2
 strcut01 : B2
 mkfn : Nat -> Nat -> List SV -> K1 -> Rs
 max : List SV -> K1 -> Rs
 min : List SV -> K1 -> Rs
 lload : Nat -> Nat -> Bool -> SV -> K1 -> Rs
 lloadp : Nat -> Bool -> B2
 lfld : Nat -> SV -> K1 -> Rs
 lfldp : Nat -> SV -> K1 -> Rs
 lidx : Nat -> Nat -> B2
 lidxp : Nat -> Nat -> B2
 nilchk : SV -> K1 -> Rs
 bbox : SV -> (List SV -> Rs) -> Rs
 bstore : Nat -> Nat -> SV -> SV -> (List SV -> Rs) -> Rs
 bstorep : Nat -> SV -> SV -> SV -> (List SV -> Rs) -> Rs
 load : Nat -> Bool -> SV -> Heap -> K1 -> Rs
 slice000 : Nat -> SV -> Heap -> K1 -> Rs
 slice100 : Nat -> SV -> SV -> Heap -> K1 -> Rs
 slice010 : Nat -> SV -> SV -> Heap -> K1 -> Rs
 slice110 : Nat -> SV -> SV -> SV -> Heap -> K1 -> Rs
 slice011 : Nat -> SV -> SV -> SV -> Heap -> K1 -> Rs
 slice111 : Nat -> SV -> SV -> SV -> SV -> Heap -> K1 -> Rs
 str : SV -> Heap -> K1 -> Rs
 store : Nat -> SV -> SV -> Heap -> (Heap -> Rs) -> Rs
 append : Nat -> Nat -> SV -> SV -> Heap -> KH -> Rs
 appendStr : Nat -> SV -> SV -> Heap -> KH -> Rs
 copy : Nat -> SV -> SV -> Heap -> KH -> Rs
 hbuild : Nat -> List SV -> List (Nat × Nat) -> List SV -> Heap -> KH -> Rs
 make : Nat -> Nat -> List SV -> SV -> SV -> Heap -> KH -> Rs
 alloc : List SV -> Heap -> KH -> Rs
 box : SV -> Heap -> KH -> Rs
 same : SV -> Heap -> Heap -> Rs -> Rs
 rest : SV -> K1 -> Rs
 resc : Nat -> Bool -> SV -> K1 -> Rs
 call : Rs -> KH -> Rs
 callv : CallC -> List SV -> Heap -> KH -> Rs
 loop0 : (Heap -> (Heap -> Rs) -> Rs) -> Nat -> Heap -> Rs
 loop1 : (SV -> Heap -> (SV -> Heap -> Rs) -> Rs) -> Nat -> SV -> Heap -> Rs
 loop2 : (SV -> SV -> Heap -> (SV -> SV -> Heap -> Rs) -> Rs) -> Nat -> SV -> SV -> Heap -> Rs
 loop3 : (SV -> SV -> SV -> Heap -> (SV -> SV -> SV -> Heap -> Rs) -> Rs) -> Nat -> SV -> SV -> SV -> Heap -> Rs
 loop4 : (SV -> SV -> SV -> SV -> Heap -> (SV -> SV -> SV -> SV -> Heap -> Rs) -> Rs) -> Nat -> SV -> SV -> SV -> SV -> Heap -> Rs
 loop5 : (SV -> SV -> SV -> SV -> SV -> Heap -> (SV -> SV -> SV -> SV -> SV -> Heap -> Rs) -> Rs) -> Nat -> SV -> SV -> SV -> SV -> SV -> Heap -> Rs
 loop6 : (SV -> SV -> SV -> SV -> SV -> SV -> Heap -> (SV -> SV -> SV -> SV -> SV -> SV -> Heap -> Rs) -> Rs) -> Nat -> SV -> SV -> SV -> SV -> SV -> SV -> Heap -> Rs
 loop7 : (SV -> SV -> SV -> SV -> SV -> SV -> SV -> Heap -> (SV -> SV -> SV -> SV -> SV -> SV -> SV -> Heap -> Rs) -> Rs) -> Nat -> SV -> SV -> SV -> SV -> SV -> SV -> SV -> Heap -> Rs
 loop8 : (SV -> SV -> SV -> SV -> SV -> SV -> SV -> SV -> Heap -> (SV -> SV -> SV -> SV -> SV -> SV -> SV -> SV -> Heap -> Rs) -> Rs) -> Nat -> SV -> SV -> SV -> SV -> SV -> SV -> SV -> SV -> Heap -> Rs
 loop9 : (SV -> SV -> SV -> SV -> SV -> SV -> SV -> SV -> SV -> Heap -> (SV -> SV -> SV -> SV -> SV -> SV -> SV -> SV -> SV -> Heap -> Rs) -> Rs) -> Nat -> SV -> SV -> SV -> SV -> SV -> SV -> SV -> SV -> SV -> Heap -> Rs
 loop10 : (SV -> SV -> SV -> SV -> SV -> SV -> SV -> SV -> SV -> SV -> Heap -> (SV -> SV -> SV -> SV -> SV -> SV -> SV -> SV -> SV -> SV -> Heap -> Rs) -> Rs) -> Nat -> SV -> SV -> SV -> SV -> SV -> SV -> SV -> SV -> SV -> SV -> Heap -> Rs
 loop11 : (SV -> SV -> SV -> SV -> SV -> SV -> SV -> SV -> SV -> SV -> SV -> Heap -> (SV -> SV -> SV -> SV -> SV -> SV -> SV -> SV -> SV -> SV -> SV -> Heap -> Rs) -> Rs) -> Nat -> SV -> SV -> SV -> SV -> SV -> SV -> SV -> SV -> SV -> SV -> SV -> Heap -> Rs
 loop12 : (SV -> SV -> SV -> SV -> SV -> SV -> SV -> SV -> SV -> SV -> SV -> SV -> Heap -> (SV -> SV -> SV -> SV -> SV -> SV -> SV -> SV -> SV -> SV -> SV -> SV -> Heap -> Rs) -> Rs) -> Nat -> SV -> SV -> SV -> SV -> SV -> SV -> SV -> SV -> SV -> SV -> SV -> SV -> Heap -> Rs
 loop13 : (SV -> SV -> SV -> SV -> SV -> SV -> SV -> SV -> SV -> SV -> SV -> SV -> SV -> Heap -> (SV -> SV -> SV -> SV -> SV -> SV -> SV -> SV -> SV -> SV -> SV -> SV -> SV -> Heap -> Rs) -> Rs) -> Nat -> SV -> SV -> SV -> SV -> SV -> SV -> SV -> SV -> SV -> SV -> SV -> SV -> SV -> Heap -> Rs
 loop14 : (SV -> SV -> SV -> SV -> SV -> SV -> SV -> SV -> SV -> SV -> SV -> SV -> SV -> SV -> Heap -> (SV -> SV -> SV -> SV -> SV -> SV -> SV -> SV -> SV -> SV -> SV -> SV -> SV -> SV -> Heap -> Rs) -> Rs) -> Nat -> SV -> SV -> SV -> SV -> SV -> SV -> SV -> SV -> SV -> SV -> SV -> SV -> SV -> SV -> Heap -> Rs
 loop15 : (SV -> SV -> SV -> SV -> SV -> SV -> SV -> SV -> SV -> SV -> SV -> SV -> SV -> SV -> SV -> Heap -> (SV -> SV -> SV -> SV -> SV -> SV -> SV -> SV -> SV -> SV -> SV -> SV -> SV -> SV -> SV -> Heap -> Rs) -> Rs) -> Nat -> SV -> SV -> SV -> SV -> SV -> SV -> SV -> SV -> SV -> SV -> SV -> SV -> SV -> SV -> SV -> Heap -> Rs
 loop16 : (SV -> SV -> SV -> SV -> SV -> SV -> SV -> SV -> SV -> SV -> SV -> SV -> SV -> SV -> SV -> SV -> Heap -> (SV -> SV -> SV -> SV -> SV -> SV -> SV -> SV -> SV -> SV -> SV -> SV -> SV -> SV -> SV -> SV -> Heap -> Rs) -> Rs) -> Nat -> SV -> SV -> SV -> SV -> SV -> SV -> SV -> SV -> SV -> SV -> SV -> SV -> SV -> SV -> SV -> SV -> Heap -> Rs
 loop17 : (SV -> SV -> SV -> SV -> SV -> SV -> SV -> SV -> SV -> SV -> SV -> SV -> SV -> SV -> SV -> SV -> SV -> Heap -> (SV -> SV -> SV -> SV -> SV -> SV -> SV -> SV -> SV -> SV -> SV -> SV -> SV -> SV -> SV -> SV -> SV -> Heap -> Rs) -> Rs) -> Nat -> SV -> SV -> SV -> SV -> SV -> SV -> SV -> SV -> SV -> SV -> SV -> SV -> SV -> SV -> SV -> SV -> SV -> Heap -> Rs
 loop18 : (SV -> SV -> SV -> SV -> SV -> SV -> SV -> SV -> SV -> SV -> SV -> SV -> SV -> SV -> SV -> SV -> SV -> SV -> Heap -> (SV -> SV -> SV -> SV -> SV -> SV -> SV -> SV -> SV -> SV -> SV -> SV -> SV -> SV -> SV -> SV -> SV -> SV -> Heap -> Rs) -> Rs) -> Nat -> SV -> SV -> SV -> SV -> SV -> SV -> SV -> SV -> SV -> SV -> SV -> SV -> SV -> SV -> SV -> SV -> SV -> SV -> Heap -> Rs
 loop19 : (SV -> SV -> SV -> SV -> SV -> SV -> SV -> SV -> SV -> SV -> SV -> SV -> SV -> SV -> SV -> SV -> SV -> SV -> SV -> Heap -> (SV -> SV -> SV -> SV -> SV -> SV -> SV -> SV -> SV -> SV -> SV -> SV -> SV -> SV -> SV -> SV -> SV -> SV -> SV -> Heap -> Rs) -> Rs) -> Nat -> SV -> SV -> SV -> SV -> SV -> SV -> SV -> SV -> SV -> SV -> SV -> SV -> SV -> SV -> SV -> SV -> SV -> SV -> SV -> Heap -> Rs
 loop20 : (SV -> SV -> SV -> SV -> SV -> SV -> SV -> SV -> SV -> SV -> SV -> SV -> SV -> SV -> SV -> SV -> SV -> SV -> SV -> SV -> Heap -> (SV -> SV -> SV -> SV -> SV -> SV -> SV -> SV -> SV -> SV -> SV -> SV -> SV -> SV -> SV -> SV -> SV -> SV -> SV -> SV -> Heap -> Rs) -> Rs) -> Nat -> SV -> SV -> SV -> SV -> SV -> SV -> SV -> SV -> SV -> SV -> SV -> SV -> SV -> SV -> SV -> SV -> SV -> SV -> SV -> SV -> Heap -> Rs
 loop21 : (SV -> SV -> SV -> SV -> SV -> SV -> SV -> SV -> SV -> SV -> SV -> SV -> SV -> SV -> SV -> SV -> SV -> SV -> SV -> SV -> SV -> Heap -> (SV -> SV -> SV -> SV -> SV -> SV -> SV -> SV -> SV -> SV -> SV -> SV -> SV -> SV -> SV -> SV -> SV -> SV -> SV -> SV -> SV -> Heap -> Rs) -> Rs) -> Nat -> SV -> SV -> SV -> SV -> SV -> SV -> SV -> SV -> SV -> SV -> SV -> SV -> SV -> SV -> SV -> SV -> SV -> SV -> SV -> SV -> SV -> Heap -> Rs
 loop22 : (SV -> SV -> SV -> SV -> SV -> SV -> SV -> SV -> SV -> SV -> SV -> SV -> SV -> SV -> SV -> SV -> SV -> SV -> SV -> SV -> SV -> SV -> Heap -> (SV -> SV -> SV -> SV -> SV -> SV -> SV -> SV -> SV -> SV -> SV -> SV -> SV -> SV -> SV -> SV -> SV -> SV -> SV -> SV -> SV -> SV -> Heap -> Rs) -> Rs) -> Nat -> SV -> SV -> SV -> SV -> SV -> SV -> SV -> SV -> SV -> SV -> SV -> SV -> SV -> SV -> SV -> SV -> SV -> SV -> SV -> SV -> SV -> SV -> Heap -> Rs
 loop23 : (SV -> SV -> SV -> SV -> SV -> SV -> SV -> SV -> SV -> SV -> SV -> SV -> SV -> SV -> SV -> SV -> SV -> SV -> SV -> SV -> SV -> SV -> SV -> Heap -> (SV -> SV -> SV -> SV -> SV -> SV -> SV -> SV -> SV -> SV -> SV -> SV -> SV -> SV -> SV -> SV -> SV -> SV -> SV -> SV -> SV -> SV -> SV -> Heap -> Rs) -> Rs) -> Nat -> SV -> SV -> SV -> SV -> SV -> SV -> SV -> SV -> SV -> SV -> SV -> SV -> SV -> SV -> SV -> SV -> SV -> SV -> SV -> SV -> SV -> SV -> SV -> Heap -> Rs
 loop24 : (SV -> SV -> SV -> SV -> SV -> SV -> SV -> SV -> SV -> SV -> SV -> SV -> SV -> SV -> SV -> SV -> SV -> SV -> SV -> SV -> SV -> SV -> SV -> SV -> Heap -> (SV -> SV -> SV -> SV -> SV -> SV -> SV -> SV -> SV -> SV -> SV -> SV -> SV -> SV -> SV -> SV -> SV -> SV -> SV -> SV -> SV -> SV -> SV -> SV -> Heap -> Rs) -> Rs) -> Nat -> SV -> SV -> SV -> SV -> SV -> SV -> SV -> SV -> SV -> SV -> SV -> SV -> SV -> SV -> SV -> SV -> SV -> SV -> SV -> SV -> SV -> SV -> SV -> SV -> Heap -> Rs
 loop25 : (SV -> SV -> SV -> SV -> SV -> SV -> SV -> SV -> SV -> SV -> SV -> SV -> SV -> SV -> SV -> SV -> SV -> SV -> SV -> SV -> SV -> SV -> SV -> SV -> SV -> Heap -> (SV -> SV -> SV -> SV -> SV -> SV -> SV -> SV -> SV -> SV -> SV -> SV -> SV -> SV -> SV -> SV -> SV -> SV -> SV -> SV -> SV -> SV -> SV -> SV -> SV -> Heap -> Rs) -> Rs) -> Nat -> SV -> SV -> SV -> SV -> SV -> SV -> SV -> SV -> SV -> SV -> SV -> SV -> SV -> SV -> SV -> SV -> SV -> SV -> SV -> SV -> SV -> SV -> SV -> SV -> SV -> Heap -> Rs
 loop26 : (SV -> SV -> SV -> SV -> SV -> SV -> SV -> SV -> SV -> SV -> SV -> SV -> SV -> SV -> SV -> SV -> SV -> SV -> SV -> SV -> SV -> SV -> SV -> SV -> SV -> SV -> Heap -> (SV -> SV -> SV -> SV -> SV -> SV -> SV -> SV -> SV -> SV -> SV -> SV -> SV -> SV -> SV -> SV -> SV -> SV -> SV -> SV -> SV -> SV -> SV -> SV -> SV -> SV -> Heap -> Rs) -> Rs) -> Nat -> SV -> SV -> SV -> SV -> SV -> SV -> SV -> SV -> SV -> SV -> SV -> SV -> SV -> SV -> SV -> SV -> SV -> SV -> SV -> SV -> SV -> SV -> SV -> SV -> SV -> SV -> Heap -> Rs
 loop27 : (SV -> SV -> SV -> SV -> SV -> SV -> SV -> SV -> SV -> SV -> SV -> SV -> SV -> SV -> SV -> SV -> SV -> SV -> SV -> SV -> SV -> SV -> SV -> SV -> SV -> SV -> SV -> Heap -> (SV -> SV -> SV -> SV -> SV -> SV -> SV -> SV -> SV -> SV -> SV -> SV -> SV -> SV -> SV -> SV -> SV -> SV -> SV -> SV -> SV -> SV -> SV -> SV -> SV -> SV -> SV -> Heap -> Rs) -> Rs) -> Nat -> SV -> SV -> SV -> SV -> SV -> SV -> SV -> SV -> SV -> SV -> SV -> SV -> SV -> SV -> SV -> SV -> SV -> SV -> SV -> SV -> SV -> SV -> SV -> SV -> SV -> SV -> SV -> Heap -> Rs
def lp0 (F : Heap -> (Heap -> Rs) -> Rs) (n : Nat) (H : Heap) : Rs := loopN (fun v H k => F H (fun H => k [] H)) n [] H
def lp1 (F : SV -> Heap -> (SV -> Heap -> Rs) -> Rs) (n : Nat) (v0 : SV) (H : Heap) : Rs := loopN (fun v H k => F (nth 0 v) H (fun v0 H => k [v0] H)) n [v0] H
def lp2 (F : SV -> SV -> Heap -> (SV -> SV -> Heap -> Rs) -> Rs) (n : Nat) (v0 v1 : SV) (H : Heap) : Rs := loopN (fun v H k => F (nth 0 v) (nth 1 v) H (fun v0 v1 H => k [v0, v1] H)) n [v0, v1] H
def lp3 (F : SV -> SV -> SV -> Heap -> (SV -> SV -> SV -> Heap -> Rs) -> Rs) (n : Nat) (v0 v1 v2 : SV) (H : Heap) : Rs := loopN (fun v H k => F (nth 0 v) (nth 1 v) (nth 2 v) H (fun v0 v1 v2 H => k [v0, v1, v2] H)) n [v0, v1, v2] H
def lp4 (F : SV -> SV -> SV -> SV -> Heap -> (SV -> SV -> SV -> SV -> Heap -> Rs) -> Rs) (n : Nat) (v0 v1 v2 v3 : SV) (H : Heap) : Rs := loopN (fun v H k => F (nth 0 v) (nth 1 v) (nth 2 v) (nth 3 v) H (fun v0 v1 v2 v3 H => k [v0, v1, v2, v3] H)) n [v0, v1, v2, v3] H
def lp5 (F : SV -> SV -> SV -> SV -> SV -> Heap -> (SV -> SV -> SV -> SV -> SV -> Heap -> Rs) -> Rs) (n : Nat) (v0 v1 v2 v3 v4 : SV) (H : Heap) : Rs := loopN (fun v H k => F (nth 0 v) (nth 1 v) (nth 2 v) (nth 3 v) (nth 4 v) H (fun v0 v1 v2 v3 v4 H => k [v0, v1, v2, v3, v4] H)) n [v0, v1, v2, v3, v4] H
def lp6 (F : SV -> SV -> SV -> SV -> SV -> SV -> Heap -> (SV -> SV -> SV -> SV -> SV -> SV -> Heap -> Rs) -> Rs) (n : Nat) (v0 v1 v2 v3 v4 v5 : SV) (H : Heap) : Rs := loopN (fun v H k => F (nth 0 v) (nth 1 v) (nth 2 v) (nth 3 v) (nth 4 v) (nth 5 v) H (fun v0 v1 v2 v3 v4 v5 H => k [v0, v1, v2, v3, v4, v5] H)) n [v0, v1, v2, v3, v4, v5] H
def lp7 (F : SV -> SV -> SV -> SV -> SV -> SV -> SV -> Heap -> (SV -> SV -> SV -> SV -> SV -> SV -> SV -> Heap -> Rs) -> Rs) (n : Nat) (v0 v1 v2 v3 v4 v5 v6 : SV) (H : Heap) : Rs := loopN (fun v H k => F (nth 0 v) (nth 1 v) (nth 2 v) (nth 3 v) (nth 4 v) (nth 5 v) (nth 6 v) H (fun v0 v1 v2 v3 v4 v5 v6 H => k [v0, v1, v2, v3, v4, v5, v6] H)) n [v0, v1, v2, v3, v4, v5, v6] H
def lp8 (F : SV -> SV -> SV -> SV -> SV -> SV -> SV -> SV -> Heap -> (SV -> SV -> SV -> SV -> SV -> SV -> SV -> SV -> Heap -> Rs) -> Rs) (n : Nat) (v0 v1 v2 v3 v4 v5 v6 v7 : SV) (H : Heap) : Rs := loopN (fun v H k => F (nth 0 v) (nth 1 v) (nth 2 v) (nth 3 v) (nth 4 v) (nth 5 v) (nth 6 v) (nth 7 v) H (fun v0 v1 v2 v3 v4 v5 v6 v7 H => k [v0, v1, v2, v3, v4, v5, v6, v7] H)) n [v0, v1, v2, v3, v4, v5, v6, v7] H
def lp9 (F : SV -> SV -> SV -> SV -> SV -> SV -> SV -> SV -> SV -> Heap -> (SV -> SV -> SV -> SV -> SV -> SV -> SV -> SV -> SV -> Heap -> Rs) -> Rs) (n : Nat) (v0 v1 v2 v3 v4 v5 v6 v7 v8 : SV) (H : Heap) : Rs := loopN (fun v H k => F (nth 0 v) (nth 1 v) (nth 2 v) (nth 3 v) (nth 4 v) (nth 5 v) (nth 6 v) (nth 7 v) (nth 8 v) H (fun v0 v1 v2 v3 v4 v5 v6 v7 v8 H => k [v0, v1, v2, v3, v4, v5, v6, v7, v8] H)) n [v0, v1, v2, v3, v4, v5, v6, v7, v8] H
def lp10 (F : SV -> SV -> SV -> SV -> SV -> SV -> SV -> SV -> SV -> SV -> Heap -> (SV -> SV -> SV -> SV -> SV -> SV -> SV -> SV -> SV -> SV -> Heap -> Rs) -> Rs) (n : Nat) (v0 v1 v2 v3 v4 v5 v6 v7 v8 v9 : SV) (H : Heap) : Rs := loopN (fun v H k => F (nth 0 v) (nth 1 v) (nth 2 v) (nth 3 v) (nth 4 v) (nth 5 v) (nth 6 v) (nth 7 v) (nth 8 v) (nth 9 v) H (fun v0 v1 v2 v3 v4 v5 v6 v7 v8 v9 H => k [v0, v1, v2, v3, v4, v5, v6, v7, v8, v9] H)) n [v0, v1, v2, v3, v4, v5, v6, v7, v8, v9] H
def lp11 (F : SV -> SV -> SV -> SV -> SV -> SV -> SV -> SV -> SV -> SV -> SV -> Heap -> (SV -> SV -> SV -> SV -> SV -> SV -> SV -> SV -> SV -> SV -> SV -> Heap -> Rs) -> Rs) (n : Nat) (v0 v1 v2 v3 v4 v5 v6 v7 v8 v9 v10 : SV) (H : Heap) : Rs := loopN (fun v H k => F (nth 0 v) (nth 1 v) (nth 2 v) (nth 3 v) (nth 4 v) (nth 5 v) (nth 6 v) (nth 7 v) (nth 8 v) (nth 9 v) (nth 10 v) H (fun v0 v1 v2 v3 v4 v5 v6 v7 v8 v9 v10 H => k [v0, v1, v2, v3, v4, v5, v6, v7, v8, v9, v10] H)) n [v0, v1, v2, v3, v4, v5, v6, v7, v8, v9, v10] H
def lp12 (F : SV -> SV -> SV -> SV -> SV -> SV -> SV -> SV -> SV -> SV -> SV -> SV -> Heap -> (SV -> SV -> SV -> SV -> SV -> SV -> SV -> SV -> SV -> SV -> SV -> SV -> Heap -> Rs) -> Rs) (n : Nat) (v0 v1 v2 v3 v4 v5 v6 v7 v8 v9 v10 v11 : SV) (H : Heap) : Rs := loopN (fun v H k => F (nth 0 v) (nth 1 v) (nth 2 v) (nth 3 v) (nth 4 v) (nth 5 v) (nth 6 v) (nth 7 v) (nth 8 v) (nth 9 v) (nth 10 v) (nth 11 v) H (fun v0 v1 v2 v3 v4 v5 v6 v7 v8 v9 v10 v11 H => k [v0, v1, v2, v3, v4, v5, v6, v7, v8, v9, v10, v11] H)) n [v0, v1, v2, v3, v4, v5, v6, v7, v8, v9, v10, v11] H
def lp13 (F : SV -> SV -> SV -> SV -> SV -> SV -> SV -> SV -> SV -> SV -> SV -> SV -> SV -> Heap -> (SV -> SV -> SV -> SV -> SV -> SV -> SV -> SV -> SV -> SV -> SV -> SV -> SV -> Heap -> Rs) -> Rs) (n : Nat) (v0 v1 v2 v3 v4 v5 v6 v7 v8 v9 v10 v11 v12 : SV) (H : Heap) : Rs := loopN (fun v H k => F (nth 0 v) (nth 1 v) (nth 2 v) (nth 3 v) (nth 4 v) (nth 5 v) (nth 6 v) (nth 7 v) (nth 8 v) (nth 9 v) (nth 10 v) (nth 11 v) (nth 12 v) H (fun v0 v1 v2 v3 v4 v5 v6 v7 v8 v9 v10 v11 v12 H => k [v0, v1, v2, v3, v4, v5, v6, v7, v8, v9, v10, v11, v12] H)) n [v0, v1, v2, v3, v4, v5, v6, v7, v8, v9, v10, v11, v12] H
def lp14 (F : SV -> SV -> SV -> SV -> SV -> SV -> SV -> SV -> SV -> SV -> SV -> SV -> SV -> SV -> Heap -> (SV -> SV -> SV -> SV -> SV -> SV -> SV -> SV -> SV -> SV -> SV -> SV -> SV -> SV -> Heap -> Rs) -> Rs) (n : Nat) (v0 v1 v2 v3 v4 v5 v6 v7 v8 v9 v10 v11 v12 v13 : SV) (H : Heap) : Rs := loopN (fun v H k => F (nth 0 v) (nth 1 v) (nth 2 v) (nth 3 v) (nth 4 v) (nth 5 v) (nth 6 v) (nth 7 v) (nth 8 v) (nth 9 v) (nth 10 v) (nth 11 v) (nth 12 v) (nth 13 v) H (fun v0 v1 v2 v3 v4 v5 v6 v7 v8 v9 v10 v11 v12 v13 H => k [v0, v1, v2, v3, v4, v5, v6, v7, v8, v9, v10, v11, v12, v13] H)) n [v0, v1, v2, v3, v4, v5, v6, v7, v8, v9, v10, v11, v12, v13] H
def lp15 (F : SV -> SV -> SV -> SV -> SV -> SV -> SV -> SV -> SV -> SV -> SV -> SV -> SV -> SV -> SV -> Heap -> (SV -> SV -> SV -> SV -> SV -> SV -> SV -> SV -> SV -> SV -> SV -> SV -> SV -> SV -> SV -> Heap -> Rs) -> Rs) (n : Nat) (v0 v1 v2 v3 v4 v5 v6 v7 v8 v9 v10 v11 v12 v13 v14 : SV) (H : Heap) : Rs := loopN (fun v H k => F (nth 0 v) (nth 1 v) (nth 2 v) (nth 3 v) (nth 4 v) (nth 5 v) (nth 6 v) (nth 7 v) (nth 8 v) (nth 9 v) (nth 10 v) (nth 11 v) (nth 12 v) (nth 13 v) (nth 14 v) H (fun v0 v1 v2 v3 v4 v5 v6 v7 v8 v9 v10 v11 v12 v13 v14 H => k [v0, v1, v2, v3, v4, v5, v6, v7, v8, v9, v10, v11, v12, v13, v14] H)) n [v0, v1, v2, v3, v4, v5, v6, v7, v8, v9, v10, v11, v12, v13, v14] H
def lp16 (F : SV -> SV -> SV -> SV -> SV -> SV -> SV -> SV -> SV -> SV -> SV -> SV -> SV -> SV -> SV -> SV -> Heap -> (SV -> SV -> SV -> SV -> SV -> SV -> SV -> SV -> SV -> SV -> SV -> SV -> SV -> SV -> SV -> SV -> Heap -> Rs) -> Rs) (n : Nat) (v0 v1 v2 v3 v4 v5 v6 v7 v8 v9 v10 v11 v12 v13 v14 v15 : SV) (H : Heap) : Rs := loopN (fun v H k => F (nth 0 v) (nth 1 v) (nth 2 v) (nth 3 v) (nth 4 v) (nth 5 v) (nth 6 v) (nth 7 v) (nth 8 v) (nth 9 v) (nth 10 v) (nth 11 v) (nth 12 v) (nth 13 v) (nth 14 v) (nth 15 v) H (fun v0 v1 v2 v3 v4 v5 v6 v7 v8 v9 v10 v11 v12 v13 v14 v15 H => k [v0, v1, v2, v3, v4, v5, v6, v7, v8, v9, v10, v11, v12, v13, v14, v15] H)) n [v0, v1, v2, v3, v4, v5, v6, v7, v8, v9, v10, v11, v12, v13, v14, v15] H
def lp17 (F : SV -> SV -> SV -> SV -> SV -> SV -> SV -> SV -> SV -> SV -> SV -> SV -> SV -> SV -> SV -> SV -> SV -> Heap -> (SV -> SV -> SV -> SV -> SV -> SV -> SV -> SV -> SV -> SV -> SV -> SV -> SV -> SV -> SV -> SV -> SV -> Heap -> Rs) -> Rs) (n : Nat) (v0 v1 v2 v3 v4 v5 v6 v7 v8 v9 v10 v11 v12 v13 v14 v15 v16 : SV) (H : Heap) : Rs := loopN (fun v H k => F (nth 0 v) (nth 1 v) (nth 2 v) (nth 3 v) (nth 4 v) (nth 5 v) (nth 6 v) (nth 7 v) (nth 8 v) (nth 9 v) (nth 10 v) (nth 11 v) (nth 12 v) (nth 13 v) (nth 14 v) (nth 15 v) (nth 16 v) H (fun v0 v1 v2 v3 v4 v5 v6 v7 v8 v9 v10 v11 v12 v13 v14 v15 v16 H => k [v0, v1, v2, v3, v4, v5, v6, v7, v8, v9, v10, v11, v12, v13, v14, v15, v16] H)) n [v0, v1, v2, v3, v4, v5, v6, v7, v8, v9, v10, v11, v12, v13, v14, v15, v16] H
def lp18 (F : SV -> SV -> SV -> SV -> SV -> SV -> SV -> SV -> SV -> SV -> SV -> SV -> SV -> SV -> SV -> SV -> SV -> SV -> Heap -> (SV -> SV -> SV -> SV -> SV -> SV -> SV -> SV -> SV -> SV -> SV -> SV -> SV -> SV -> SV -> SV -> SV -> SV -> Heap -> Rs) -> Rs) (n : Nat) (v0 v1 v2 v3 v4 v5 v6 v7 v8 v9 v10 v11 v12 v13 v14 v15 v16 v17 : SV) (H : Heap) : Rs := loopN (fun v H k => F (nth 0 v) (nth 1 v) (nth 2 v) (nth 3 v) (nth 4 v) (nth 5 v) (nth 6 v) (nth 7 v) (nth 8 v) (nth 9 v) (nth 10 v) (nth 11 v) (nth 12 v) (nth 13 v) (nth 14 v) (nth 15 v) (nth 16 v) (nth 17 v) H (fun v0 v1 v2 v3 v4 v5 v6 v7 v8 v9 v10 v11 v12 v13 v14 v15 v16 v17 H => k [v0, v1, v2, v3, v4, v5, v6, v7, v8, v9, v10, v11, v12, v13, v14, v15, v16, v17] H)) n [v0, v1, v2, v3, v4, v5, v6, v7, v8, v9, v10, v11, v12, v13, v14, v15, v16, v17] H
def lp19 (F : SV -> SV -> SV -> SV -> SV -> SV -> SV -> SV -> SV -> SV -> SV -> SV -> SV -> SV -> SV -> SV -> SV -> SV -> SV -> Heap -> (SV -> SV -> SV -> SV -> SV -> SV -> SV -> SV -> SV -> SV -> SV -> SV -> SV -> SV -> SV -> SV -> SV -> SV -> SV -> Heap -> Rs) -> Rs) (n : Nat) (v0 v1 v2 v3 v4 v5 v6 v7 v8 v9 v10 v11 v12 v13 v14 v15 v16 v17 v18 : SV) (H : Heap) : Rs := loopN (fun v H k => F (nth 0 v) (nth 1 v) (nth 2 v) (nth 3 v) (nth 4 v) (nth 5 v) (nth 6 v) (nth 7 v) (nth 8 v) (nth 9 v) (nth 10 v) (nth 11 v) (nth 12 v) (nth 13 v) (nth 14 v) (nth 15 v) (nth 16 v) (nth 17 v) (nth 18 v) H (fun v0 v1 v2 v3 v4 v5 v6 v7 v8 v9 v10 v11 v12 v13 v14 v15 v16 v17 v18 H => k [v0, v1, v2, v3, v4, v5, v6, v7, v8, v9, v10, v11, v12, v13, v14, v15, v16, v17, v18] H)) n [v0, v1, v2, v3, v4, v5, v6, v7, v8, v9, v10, v11, v12, v13, v14, v15, v16, v17, v18] H
def lp20 (F : SV -> SV -> SV -> SV -> SV -> SV -> SV -> SV -> SV -> SV -> SV -> SV -> SV -> SV -> SV -> SV -> SV -> SV -> SV -> SV -> Heap -> (SV -> SV -> SV -> SV -> SV -> SV -> SV -> SV -> SV -> SV -> SV -> SV -> SV -> SV -> SV -> SV -> SV -> SV -> SV -> SV -> Heap -> Rs) -> Rs) (n : Nat) (v0 v1 v2 v3 v4 v5 v6 v7 v8 v9 v10 v11 v12 v13 v14 v15 v16 v17 v18 v19 : SV) (H : Heap) : Rs := loopN (fun v H k => F (nth 0 v) (nth 1 v) (nth 2 v) (nth 3 v) (nth 4 v) (nth 5 v) (nth 6 v) (nth 7 v) (nth 8 v) (nth 9 v) (nth 10 v) (nth 11 v) (nth 12 v) (nth 13 v) (nth 14 v) (nth 15 v) (nth 16 v) (nth 17 v) (nth 18 v) (nth 19 v) H (fun v0 v1 v2 v3 v4 v5 v6 v7 v8 v9 v10 v11 v12 v13 v14 v15 v16 v17 v18 v19 H => k [v0, v1, v2, v3, v4, v5, v6, v7, v8, v9, v10, v11, v12, v13, v14, v15, v16, v17, v18, v19] H)) n [v0, v1, v2, v3, v4, v5, v6, v7, v8, v9, v10, v11, v12, v13, v14, v15, v16, v17, v18, v19] H
def lp21 (F : SV -> SV -> SV -> SV -> SV -> SV -> SV -> SV -> SV -> SV -> SV -> SV -> SV -> SV -> SV -> SV -> SV -> SV -> SV -> SV -> SV -> Heap -> (SV -> SV -> SV -> SV -> SV -> SV -> SV -> SV -> SV -> SV -> SV -> SV -> SV -> SV -> SV -> SV -> SV -> SV -> SV -> SV -> SV -> Heap -> Rs) -> Rs) (n : Nat) (v0 v1 v2 v3 v4 v5 v6 v7 v8 v9 v10 v11 v12 v13 v14 v15 v16 v17 v18 v19 v20 : SV) (H : Heap) : Rs := loopN (fun v H k => F (nth 0 v) (nth 1 v) (nth 2 v) (nth 3 v) (nth 4 v) (nth 5 v) (nth 6 v) (nth 7 v) (nth 8 v) (nth 9 v) (nth 10 v) (nth 11 v) (nth 12 v) (nth 13 v) (nth 14 v) (nth 15 v) (nth 16 v) (nth 17 v) (nth 18 v) (nth 19 v) (nth 20 v) H (fun v0 v1 v2 v3 v4 v5 v6 v7 v8 v9 v10 v11 v12 v13 v14 v15 v16 v17 v18 v19 v20 H => k [v0, v1, v2, v3, v4, v5, v6, v7, v8, v9, v10, v11, v12, v13, v14, v15, v16, v17, v18, v19, v20] H)) n [v0, v1, v2, v3, v4, v5, v6, v7, v8, v9, v10, v11, v12, v13, v14, v15, v16, v17, v18, v19, v20] H
def lp22 (F : SV -> SV -> SV -> SV -> SV -> SV -> SV -> SV -> SV -> SV -> SV -> SV -> SV -> SV -> SV -> SV -> SV -> SV -> SV -> SV -> SV -> SV -> Heap -> (SV -> SV -> SV -> SV -> SV -> SV -> SV -> SV -> SV -> SV -> SV -> SV -> SV -> SV -> SV -> SV -> SV -> SV -> SV -> SV -> SV -> SV -> Heap -> Rs) -> Rs) (n : Nat) (v0 v1 v2 v3 v4 v5 v6 v7 v8 v9 v10 v11 v12 v13 v14 v15 v16 v17 v18 v19 v20 v21 : SV) (H : Heap) : Rs := loopN (fun v H k => F (nth 0 v) (nth 1 v) (nth 2 v) (nth 3 v) (nth 4 v) (nth 5 v) (nth 6 v) (nth 7 v) (nth 8 v) (nth 9 v) (nth 10 v) (nth 11 v) (nth 12 v) (nth 13 v) (nth 14 v) (nth 15 v) (nth 16 v) (nth 17 v) (nth 18 v) (nth 19 v) (nth 20 v) (nth 21 v) H (fun v0 v1 v2 v3 v4 v5 v6 v7 v8 v9 v10 v11 v12 v13 v14 v15 v16 v17 v18 v19 v20 v21 H => k [v0, v1, v2, v3, v4, v5, v6, v7, v8, v9, v10, v11, v12, v13, v14, v15, v16, v17, v18, v19, v20, v21] H)) n [v0, v1, v2, v3, v4, v5, v6, v7, v8, v9, v10, v11, v12, v13, v14, v15, v16, v17, v18, v19, v20, v21] H
def lp23 (F : SV -> SV -> SV -> SV -> SV -> SV -> SV -> SV -> SV -> SV -> SV -> SV -> SV -> SV -> SV -> SV -> SV -> SV -> SV -> SV -> SV -> SV -> SV -> Heap -> (SV -> SV -> SV -> SV -> SV -> SV -> SV -> SV -> SV -> SV -> SV -> SV -> SV -> SV -> SV -> SV -> SV -> SV -> SV -> SV -> SV -> SV -> SV -> Heap -> Rs) -> Rs) (n : Nat) (v0 v1 v2 v3 v4 v5 v6 v7 v8 v9 v10 v11 v12 v13 v14 v15 v16 v17 v18 v19 v20 v21 v22 : SV) (H : Heap) : Rs := loopN (fun v H k => F (nth 0 v) (nth 1 v) (nth 2 v) (nth 3 v) (nth 4 v) (nth 5 v) (nth 6 v) (nth 7 v) (nth 8 v) (nth 9 v) (nth 10 v) (nth 11 v) (nth 12 v) (nth 13 v) (nth 14 v) (nth 15 v) (nth 16 v) (nth 17 v) (nth 18 v) (nth 19 v) (nth 20 v) (nth 21 v) (nth 22 v) H (fun v0 v1 v2 v3 v4 v5 v6 v7 v8 v9 v10 v11 v12 v13 v14 v15 v16 v17 v18 v19 v20 v21 v22 H => k [v0, v1, v2, v3, v4, v5, v6, v7, v8, v9, v10, v11, v12, v13, v14, v15, v16, v17, v18, v19, v20, v21, v22] H)) n [v0, v1, v2, v3, v4, v5, v6, v7, v8, v9, v10, v11, v12, v13, v14, v15, v16, v17, v18, v19, v20, v21, v22] H
def lp24 (F : SV -> SV -> SV -> SV -> SV -> SV -> SV -> SV -> SV -> SV -> SV -> SV -> SV -> SV -> SV -> SV -> SV -> SV -> SV -> SV -> SV -> SV -> SV -> SV -> Heap -> (SV -> SV -> SV -> SV -> SV -> SV -> SV -> SV -> SV -> SV -> SV -> SV -> SV -> SV -> SV -> SV -> SV -> SV -> SV -> SV -> SV -> SV -> SV -> SV -> Heap -> Rs) -> Rs) (n : Nat) (v0 v1 v2 v3 v4 v5 v6 v7 v8 v9 v10 v11 v12 v13 v14 v15 v16 v17 v18 v19 v20 v21 v22 v23 : SV) (H : Heap) : Rs := loopN (fun v H k => F (nth 0 v) (nth 1 v) (nth 2 v) (nth 3 v) (nth 4 v) (nth 5 v) (nth 6 v) (nth 7 v) (nth 8 v) (nth 9 v) (nth 10 v) (nth 11 v) (nth 12 v) (nth 13 v) (nth 14 v) (nth 15 v) (nth 16 v) (nth 17 v) (nth 18 v) (nth 19 v) (nth 20 v) (nth 21 v) (nth 22 v) (nth 23 v) H (fun v0 v1 v2 v3 v4 v5 v6 v7 v8 v9 v10 v11 v12 v13 v14 v15 v16 v17 v18 v19 v20 v21 v22 v23 H => k [v0, v1, v2, v3, v4, v5, v6, v7, v8, v9, v10, v11, v12, v13, v14, v15, v16, v17, v18, v19, v20, v21, v22, v23] H)) n [v0, v1, v2, v3, v4, v5, v6, v7, v8, v9, v10, v11, v12, v13, v14, v15, v16, v17, v18, v19, v20, v21, v22, v23] H
def lp25 (F : SV -> SV -> SV -> SV -> SV -> SV -> SV -> SV -> SV -> SV -> SV -> SV -> SV -> SV -> SV -> SV -> SV -> SV -> SV -> SV -> SV -> SV -> SV -> SV -> SV -> Heap -> (SV -> SV -> SV -> SV -> SV -> SV -> SV -> SV -> SV -> SV -> SV -> SV -> SV -> SV -> SV -> SV -> SV -> SV -> SV -> SV -> SV -> SV -> SV -> SV -> SV -> Heap -> Rs) -> Rs) (n : Nat) (v0 v1 v2 v3 v4 v5 v6 v7 v8 v9 v10 v11 v12 v13 v14 v15 v16 v17 v18 v19 v20 v21 v22 v23 v24 : SV) (H : Heap) : Rs := loopN (fun v H k => F (nth 0 v) (nth 1 v) (nth 2 v) (nth 3 v) (nth 4 v) (nth 5 v) (nth 6 v) (nth 7 v) (nth 8 v) (nth 9 v) (nth 10 v) (nth 11 v) (nth 12 v) (nth 13 v) (nth 14 v) (nth 15 v) (nth 16 v) (nth 17 v) (nth 18 v) (nth 19 v) (nth 20 v) (nth 21 v) (nth 22 v) (nth 23 v) (nth 24 v) H (fun v0 v1 v2 v3 v4 v5 v6 v7 v8 v9 v10 v11 v12 v13 v14 v15 v16 v17 v18 v19 v20 v21 v22 v23 v24 H => k [v0, v1, v2, v3, v4, v5, v6, v7, v8, v9, v10, v11, v12, v13, v14, v15, v16, v17, v18, v19, v20, v21, v22, v23, v24] H)) n [v0, v1, v2, v3, v4, v5, v6, v7, v8, v9, v10, v11, v12, v13, v14, v15, v16, v17, v18, v19, v20, v21, v22, v23, v24] H
def lp26 (F : SV -> SV -> SV -> SV -> SV -> SV -> SV -> SV -> SV -> SV -> SV -> SV -> SV -> SV -> SV -> SV -> SV -> SV -> SV -> SV -> SV -> SV -> SV -> SV -> SV -> SV -> Heap -> (SV -> SV -> SV -> SV -> SV -> SV -> SV -> SV -> SV -> SV -> SV -> SV -> SV -> SV -> SV -> SV -> SV -> SV -> SV -> SV -> SV -> SV -> SV -> SV -> SV -> SV -> Heap -> Rs) -> Rs) (n : Nat) (v0 v1 v2 v3 v4 v5 v6 v7 v8 v9 v10 v11 v12 v13 v14 v15 v16 v17 v18 v19 v20 v21 v22 v23 v24 v25 : SV) (H : Heap) : Rs := loopN (fun v H k => F (nth 0 v) (nth 1 v) (nth 2 v) (nth 3 v) (nth 4 v) (nth 5 v) (nth 6 v) (nth 7 v) (nth 8 v) (nth 9 v) (nth 10 v) (nth 11 v) (nth 12 v) (nth 13 v) (nth 14 v) (nth 15 v) (nth 16 v) (nth 17 v) (nth 18 v) (nth 19 v) (nth 20 v) (nth 21 v) (nth 22 v) (nth 23 v) (nth 24 v) (nth 25 v) H (fun v0 v1 v2 v3 v4 v5 v6 v7 v8 v9 v10 v11 v12 v13 v14 v15 v16 v17 v18 v19 v20 v21 v22 v23 v24 v25 H => k [v0, v1, v2, v3, v4, v5, v6, v7, v8, v9, v10, v11, v12, v13, v14, v15, v16, v17, v18, v19, v20, v21, v22, v23, v24, v25] H)) n [v0, v1, v2, v3, v4, v5, v6, v7, v8, v9, v10, v11, v12, v13, v14, v15, v16, v17, v18, v19, v20, v21, v22, v23, v24, v25] H
def lp27 (F : SV -> SV -> SV -> SV -> SV -> SV -> SV -> SV -> SV -> SV -> SV -> SV -> SV -> SV -> SV -> SV -> SV -> SV -> SV -> SV -> SV -> SV -> SV -> SV -> SV -> SV -> SV -> Heap -> (SV -> SV -> SV -> SV -> SV -> SV -> SV -> SV -> SV -> SV -> SV -> SV -> SV -> SV -> SV -> SV -> SV -> SV -> SV -> SV -> SV -> SV -> SV -> SV -> SV -> SV -> SV -> Heap -> Rs) -> Rs) (n : Nat) (v0 v1 v2 v3 v4 v5 v6 v7 v8 v9 v10 v11 v12 v13 v14 v15 v16 v17 v18 v19 v20 v21 v22 v23 v24 v25 v26 : SV) (H : Heap) : Rs := loopN (fun v H k => F (nth 0 v) (nth 1 v) (nth 2 v) (nth 3 v) (nth 4 v) (nth 5 v) (nth 6 v) (nth 7 v) (nth 8 v) (nth 9 v) (nth 10 v) (nth 11 v) (nth 12 v) (nth 13 v) (nth 14 v) (nth 15 v) (nth 16 v) (nth 17 v) (nth 18 v) (nth 19 v) (nth 20 v) (nth 21 v) (nth 22 v) (nth 23 v) (nth 24 v) (nth 25 v) (nth 26 v) H (fun v0 v1 v2 v3 v4 v5 v6 v7 v8 v9 v10 v11 v12 v13 v14 v15 v16 v17 v18 v19 v20 v21 v22 v23 v24 v25 v26 H => k [v0, v1, v2, v3, v4, v5, v6, v7, v8, v9, v10, v11, v12, v13, v14, v15, v16, v17, v18, v19, v20, v21, v22, v23, v24, v25, v26] H)) n [v0, v1, v2, v3, v4, v5, v6, v7, v8, v9, v10, v11, v12, v13, v14, v15, v16, v17, v18, v19, v20, v21, v22, v23, v24, v25, v26] H
def slow : Ops where
 cond := condK
 guard := fun v A B U => guardK v (fun b => Bool.casesOn b B A) U
 pick := fun c x y k => (opP .pick [c, x, y]).bind k
 add := fun x y k => (opP (.bin .add) [x, y]).bind k
 sub := fun x y k => (opP (.bin .sub) [x, y]).bind k
 mul := fun x y k => (opP (.bin .mul) [x, y]).bind k
 quo := fun x y k => (opP (.bin .quo) [x, y]).bind k
 rem := fun x y k => (opP (.bin .rem) [x, y]).bind k
 eql := fun x y k => (opP (.bin .eql) [x, y]).bind k
 neq := fun x y k => (opP (.bin .neq) [x, y]).bind k
 lss := fun x y k => (opP (.bin .lss) [x, y]).bind k
 leq := fun x y k => (opP (.bin .leq) [x, y]).bind k
 gtr := fun x y k => (opP (.bin .gtr) [x, y]).bind k
 geq := fun x y k => (opP (.bin .geq) [x, y]).bind k
 shl := fun x y k => (opP (.bin .shl) [x, y]).bind k
 shr := fun x y k => (opP (.bin .shr) [x, y]).bind k
 and := fun x y k => (opP (.bin .and) [x, y]).bind k
 or := fun x y k => (opP (.bin .or) [x, y]).bind k
 xor := fun x y k => (opP (.bin .xor) [x, y]).bind k
 andNot := fun x y k => (opP (.bin .andNot) [x, y]).bind k
 b_eql := fun x y k => (opP (.binB .eql) [x, y]).bind k
 b_neq := fun x y k => (opP (.binB .neq) [x, y]).bind k
 s_eql := fun x y k => (opP (.binS .eql) [x, y]).bind k
 s_neq := fun x y k => (opP (.binS .neq) [x, y]).bind k
 u_neg := fun x k => (opP (.un .neg) [x]).bind k
 u_xor := fun x k => (opP (.un .xor) [x]).bind k
 u_not := fun x k => (opP (.un .not) [x]).bind k
 conv := fun kd x k => (opP (.conv kd) [x]).bind k
 len := fun x k => (opP .len [x]).bind k
 slen := fun x k => (opP .slen [x]).bind k
 ext := fun i x k => (opP (.ext i) [x]).bind k
 idx := fun sz x i k => (opP (.idx sz) [x, i]).bind k
 pidx := fun n sz x i k => (opP (.pidx n sz) [x, i]).bind k
 fld := fun off x k => (opP (.fld off) [x]).bind k
 fieldv := fun off n ag x k => (opP (.fieldv off n ag) [x]).bind k
 indexv := fun n sz ag x i k => (opP (.indexv n sz ag) [x, i]).bind k
 build := fun z ps xs k => (opP (.build z ps) xs).bind k
 stridx := fun x i k => (opP .stridx [x, i]).bind k
 strcut11 := fun x a b k => (opP (.strcut true true) [x, a, b]).bind k
 strcut10 := fun x a k => (opP (.strcut true false) [x, a]).bind k
 strcut01 := fun x b k => (opP (.strcut false true) [x, b]).bind k
 mkfn := fun f n xs k => (opP (.mkfn f n) xs).bind k
 max := fun xs k => (opP .max xs).bind k
 min := fun xs k => (opP .min xs).bind k
 lload := fun off n ag x k => (opP (.lload off n ag) [x]).bind k
 lloadp := fun n ag b x k => (opP (.lloadp n ag) [b, x]).bind k
 lfld := fun off x k => (opP (.lfld off) [x]).bind k
 lfldp := fun off x k => (opP (.lfldp off) [x]).bind k
 lidx := fun n sz x i k => (opP (.lidx n sz) [x, i]).bind k
 lidxp := fun n sz x i k => (opP (.lidxp n sz) [x, i]).bind k
 nilchk := fun x k => (opP .nilchk [x]).bind k
 bbox := fun x k => (opB .box [x]).bind k
 bstore := fun off n b x k => (opB (.store off n) [b, x]).bind k
 bstorep := fun n b p x k => (opB (.storep n) [b, p, x]).bind k
 load := fun n ag p H k => (opR (.load n ag) [p] H).bind k
 slice000 := fun sz s H k => (opR (.slice sz false false false) [s] H).bind k
 slice100 := fun sz s a H k => (opR (.slice sz true false false) [s, a] H).bind k
 slice010 := fun sz s b H k => (opR (.slice sz false true false) [s, b] H).bind k
 slice110 := fun sz s a b H k => (opR (.slice sz true true false) [s, a, b] H).bind k
 slice011 := fun sz s b c H k => (opR (.slice sz false true true) [s, b, c] H).bind k
 slice111 := fun sz s a b c H k => (opR (.slice sz true true true) [s, a, b, c] H).bind k
 str := fun s H k => (opR .str [s] H).bind k
 store := fun n p x H k => (opE (.store n) [p, x] H).bind fun q => k q.2
 append := fun sz by_ s x H k => (opE (.append sz by_) [s, x] H).bind fun q => k q.1 q.2
 appendStr := fun by_ s x H k => (opE (.appendStr by_) [s, x] H).bind fun q => k q.1 q.2
 copy := fun sz s x H k => (opE (.copy sz) [s, x] H).bind fun q => k q.1 q.2
 hbuild := fun sz z ps xs H k => (opE (.build sz z ps) xs H).bind fun q => k q.1 q.2
 make := fun sz by_ z l c H k => (opE (.make sz by_ z) [l, c] H).bind fun q => k q.1 q.2
 alloc := fun z H k => (opE (.alloc z) [] H).bind fun q => k q.1 q.2
 box := fun x H k => (opE .box [x] H).bind fun q => k q.1 q.2
 same := fun x H H' t => bif sameRow x H H' then t else none
 rest := fun x k => ((Res.t 0).of x).bind k
 resc := fun n ag x k => ((Res.cell 0 n ag).of x).bind k
 call := callK
 callv := fun C xs H k => callV (viaC C) xs H k
 loop0 := lp0
 loop1 := lp1
 loop2 := lp2
 loop3 := lp3
 loop4 := lp4
 loop5 := lp5
 loop6 := lp6
 loop7 := lp7
 loop8 := lp8
 loop9 := lp9
 loop10 := lp10
 loop11 := lp11
 loop12 := lp12
 loop13 := lp13
 loop14 := lp14
 loop15 := lp15
 loop16 := lp16
 loop17 := lp17
 loop18 := lp18
 loop19 := lp19
 loop20 := lp20
 loop21 := lp21
 loop22 := lp22
 loop23 := lp23
 loop24 := lp24
 loop25 := lp25
 loop26 := lp26
 loop27 := lp27
end Go.Sh
