/- Plain forms, printed by a program. -/
import Derived.Test.YtpdkfleleebdaaaGreatDoorSh26
set_option linter.unusedVariables false
set_option maxRecDepth 100000
namespace Go.Sh.Of
open Go
def f3_j5 (o : Ops) (K : Nat) (C : CallC) (a : SV) (b : Heap) : Rs :=
 o.rest a fun c =>
 some (c, b)
def f3_j7 (o : Ops) (K : Nat) (C : CallC) (a : SV) (b : Heap) : Rs :=
 o.rest a fun c =>
 some (c, b)
def f3_j3 (o : Ops) (K : Nat) (C : CallC) (b c d k l m n : SV) (e : Heap) : Rs :=
 (o.cond n
 (some ((.bool true), e))
 (o.lload 0 2 true b fun p =>
 o.lload 0 2 true k fun q =>
 o.call (C 7 [p, q] e) fun f r =>
 o.ext 0 f fun s =>
 o.ext 1 f fun g =>
 o.bstore 0 3 (.box [.bool false, .slice nilSl, .slice nilSl]) s fun h =>
 o.call (C 8 [c, d, l, m] r) fun i a =>
 o.ext 0 i fun t =>
 o.ext 1 i fun u =>
 o.bstore 0 3 (.box [.bool false, .slice nilSl, .slice nilSl]) t fun v =>
 o.u_not u fun w =>
 (o.cond w
 (o.eql g (.int .i64 11) fun x =>
 (o.guard x
 (o.lload 0 3 true (.box h) fun y =>
 o.call (C 9 [y] a) fun z A =>
 o.eql z (.str [48]) fun B =>
 (f3_j5 o K C B A))
 ((f3_j5 o K C (.bool false) a))
 (none)))
 (o.eql g (.int .i64 0) fun D =>
 (o.guard D
 (o.lload 0 3 true (.box h) fun E =>
 o.call (C 9 [E] a) fun F G =>
 o.lload 0 3 true (.box v) fun I =>
 o.call (C 10 [I] G) fun J j =>
 o.eql F J fun L =>
 (o.guard L
 (o.lload 0 2 true b fun M =>
 o.call (C 11 [M] j) fun N P =>
 o.call (C 9 [N] P) fun Q S =>
 o.call (C 12 [c, d] S) fun T U =>
 o.eql Q T fun V =>
 (f3_j7 o K C V U))
 ((f3_j7 o K C (.bool false) j))
 (none)))
 ((f3_j7 o K C (.bool false) a))
 (none))))))
def f3_j1 (o : Ops) (K : Nat) (C : CallC) (k l m : SV) (c : Heap) : Rs :=
 (o.cond m
 (o.call (C 4 [] c) fun n p =>
 o.rest n fun q =>
 some (q, p))
 (o.call (C 6 [k] c) fun a r =>
 o.ext 0 a fun s =>
 o.ext 1 a fun d =>
 o.ext 2 a fun e =>
 o.ext 3 a fun t =>
 o.bstore 0 2 (.box [.bool false, .slice nilSl]) s fun f =>
 o.call (C 6 [l] r) fun b g =>
 o.ext 0 b fun u =>
 o.ext 1 b fun h =>
 o.ext 2 b fun i =>
 o.ext 3 b fun v =>
 o.bstore 0 2 (.box [.bool false, .slice nilSl]) u fun j =>
 o.u_not t fun w =>
 (o.guard w
 ((f3_j3 o K C (.box f) d e (.box j) h i (.bool true) g))
 (o.u_not v fun x =>
 (f3_j3 o K C (.box f) d e (.box j) h i x g))
 (none))))
def f3 (o : Ops) (K : Nat) (C : CallC) (a b : SV) (H : Heap) : Rs :=
 o.call (C 4 [] H) fun d c =>
 o.u_not d fun e =>
 (o.guard e
 ((f3_j1 o K C a b (.bool true) c))
 (o.hbuild 1 [.str [], .str []] [(0, 1), (1, 1)] [a, b] c fun f g =>
 o.call (C 5 [f] g) fun h i =>
 (f3_j1 o K C a b h i))
 (none))
def f4_j1 (o : Ops) (K : Nat) (C : CallC) (a : SV) (b : Heap) : Rs :=
 o.rest a fun c =>
 some (c, b)
def f4 (o : Ops) (K : Nat) (C : CallC) (H : Heap) : Rs :=
 o.call (C 13 [(.int .i64 6)] H) fun l m =>
 o.call (C 13 [(.int .i64 (-4))] m) fun n p =>
 o.call (C 7 [l, n] p) fun d q =>
 o.ext 0 d fun r =>
 o.ext 1 d fun s =>
 o.bstore 0 3 (.box [.bool false, .slice nilSl, .slice nilSl]) r fun a =>
 o.call (C 14 [(.str [49, 47, 50])] q) fun e t =>
 o.ext 0 e fun u =>
 o.ext 1 e fun v =>
 o.bstore 0 3 (.box [.bool false, .slice nilSl, .slice nilSl]) u fun c =>
 o.lload 0 3 true (.box a) fun w =>
 o.lload 0 3 true (.box c) fun x =>
 o.call (C 15 [w, x] t) fun f y =>
 o.ext 0 f fun z =>
 o.ext 1 f fun A =>
 o.bstore 0 3 (.box [.bool false, .slice nilSl, .slice nilSl]) z fun B =>
 o.lload 0 3 true (.box a) fun D =>
 o.build [.bool false, .slice nilSl, .slice nilSl] [] [] fun E =>
 o.call (C 16 [D, E] y) fun g b =>
 o.ext 0 g fun F =>
 o.ext 1 g fun G =>
 o.bstore 0 3 (.box [.bool false, .slice nilSl, .slice nilSl]) F fun ak =>
 o.eql s (.int .i64 0) fun I =>
 (o.guard I
 (o.eql v (.int .i64 0) fun J =>
 (o.guard J
 (o.eql A (.int .i64 0) fun L =>
 (o.guard L
 (o.eql G (.int .i64 11) fun M =>
 (o.guard M
 (o.lload 0 3 true (.box a) fun N =>
 o.call (C 9 [N] b) fun P h =>
 o.eql P (.str [45, 51, 47, 50]) fun Q =>
 (o.guard Q
 (o.lload 0 3 true (.box B) fun S =>
 o.call (C 9 [S] h) fun T i =>
 o.eql T (.str [45, 49]) fun U =>
 (o.guard U
 (o.lload 0 3 true (.box a) fun V =>
 o.call (C 17 [V] i) fun W X =>
 o.call (C 18 [W] X) fun Y j =>
 o.eql Y (.str [45, 50]) fun Z =>
 (o.guard Z
 (o.lload 0 3 true (.box c) fun aa =>
 o.call (C 19 [aa] j) fun ab ac =>
 o.call (C 18 [ab] ac) fun ad k =>
 o.eql ad (.str [49]) fun ae =>
 (o.guard ae
 (o.lload 0 3 true (.box a) fun af =>
 o.lload 0 3 true (.box c) fun ag =>
 o.call (C 20 [af, ag] k) fun ah ai =>
 o.lss ah (.int .i64 0) fun aj =>
 (f4_j1 o K C aj ai))
 ((f4_j1 o K C (.bool false) k))
 (none)))
 ((f4_j1 o K C (.bool false) j))
 (none)))
 ((f4_j1 o K C (.bool false) i))
 (none)))
 ((f4_j1 o K C (.bool false) h))
 (none)))
 ((f4_j1 o K C (.bool false) b))
 (none)))
 ((f4_j1 o K C (.bool false) b))
 (none)))
 ((f4_j1 o K C (.bool false) b))
 (none)))
 ((f4_j1 o K C (.bool false) b))
 (none))
def f5_l1 (o : Ops) (K : Nat) (C : CallC) : SV -> SV -> SV -> Heap -> (SV -> SV -> SV -> Heap -> Rs) -> Rs := fun c d b a e =>
 o.lss b d fun f =>
 (o.cond f
 (o.idx 1 c b fun g =>
 o.load 1 false g a fun h =>
 o.slen h fun i =>
 o.gtr i (.int .i64 8192) fun j =>
 (o.cond j
 (some ((.bool true), a))
 (o.add b (.int .i64 1) fun k =>
 e c d k a)))
 (some ((.bool false), a)))
def f5 (o : Ops) (K : Nat) (C : CallC) (a : SV) (H : Heap) : Rs :=
 o.len a fun b =>
 (o.loop3 (f5_l1 o K C) K a b (.int .i64 0) H)
def f6_j3 (o : Ops) (K : Nat) (C : CallC) (f a g h i : SV) (b : Heap) : Rs :=
 (o.cond i
 (o.build [.bool false, .slice nilSl] [] [] fun j =>
 o.bstore 0 2 a j fun k =>
 o.resc 2 true (.box k) fun l =>
 some (.tuple [l, (.bool false), (.slice nilSl), (.bool false)], b))
 (o.call (C 22 [h] b) fun c d =>
 o.ext 0 c fun m =>
 o.ext 1 c fun n =>
 o.u_not n fun p =>
 (o.cond p
 (o.build [.bool false, .slice nilSl] [] [] fun q =>
 o.bstore 0 2 a q fun r =>
 o.resc 2 true (.box r) fun s =>
 some (.tuple [s, (.bool false), (.slice nilSl), (.bool false)], d))
 (o.call (C 23 [f] d) fun e t =>
 o.ext 0 e fun u =>
 o.ext 1 e fun v =>
 o.bstore 0 2 (.box [.bool false, .slice nilSl]) u fun w =>
 o.lload 0 2 true (.box w) fun x =>
 o.eql v (.int .i64 0) fun y =>
 o.bstore 0 2 a x fun z =>
 o.resc 2 true (.box z) fun A =>
 o.rest g fun B =>
 o.rest m fun D =>
 o.rest y fun E =>
 some (.tuple [A, B, D, E], t)))))
def f6_j2 (o : Ops) (K : Nat) (C : CallC) (c d b a : SV) (f : Heap) : Rs :=
 o.call (C 21 [a] f) fun g e =>
 o.u_not g fun h =>
 (o.guard h
 ((f6_j3 o K C c d b a (.bool true) e))
 ((o.guard b
 (o.eql a (.str [48]) fun i =>
 (f6_j3 o K C c d b a i e))
 ((f6_j3 o K C c d b a (.bool false) e))
 (none)))
 (none))
def f6_j1 (o : Ops) (K : Nat) (C : CallC) (a c b : SV) (d : Heap) : Rs :=
 (o.cond b
 (o.strcut10 a (.int .i64 1) fun e =>
 (f6_j2 o K C a c b e d))
 ((f6_j2 o K C a c b a d)))
def f6 (o : Ops) (K : Nat) (C : CallC) (a : SV) (H : Heap) : Rs :=
 o.slen a fun b =>
 o.gtr b (.int .i64 0) fun c =>
 (o.guard c
 (o.stridx a (.int .i64 0) fun d =>
 o.eql d (.int .u8 45) fun e =>
 (f6_j1 o K C a (.box [.bool false, .slice nilSl]) e H))
 ((f6_j1 o K C a (.box [.bool false, .slice nilSl]) (.bool false) H))
 (none))
def f7_j2 (o : Ops) (K : Nat) (C : CallC) (a b c : SV) (d : Heap) : Rs :=
 o.lload 0 2 true a fun e =>
 o.lload 0 2 true b fun f =>
 o.call (C 27 [f] d) fun g h =>
 o.call (C 26 [e, g] h) fun i j =>
 o.bstore 0 3 c i fun k =>
 o.resc 3 true (.box k) fun l =>
 some (.tuple [l, (.int .i64 0)], j)
def f7 (o : Ops) (K : Nat) (C : CallC) (e f : SV) (H : Heap) : Rs :=
 o.bbox e fun b =>
 o.bbox f fun a =>
 o.lload 0 2 true (.box a) fun g =>
 o.call (C 24 [g] H) fun h c =>
 o.eql h (.int .i64 0) fun i =>
 (o.cond i
 (o.build [.bool false, .slice nilSl, .slice nilSl] [] [] fun j =>
 o.bstore 0 3 (.box [.bool false, .slice nilSl, .slice nilSl]) j fun k =>
 o.resc 3 true (.box k) fun l =>
 some (.tuple [l, (.int .i64 11)], c))
 (o.lload 0 2 true (.box a) fun m =>
 o.call (C 24 [m] c) fun n d =>
 o.lss n (.int .i64 0) fun p =>
 (o.cond p
 (o.lload 0 2 true (.box b) fun q =>
 o.call (C 25 [q] d) fun r s =>
 o.bstore 0 2 (.box b) r fun t =>
 (f7_j2 o K C (.box t) (.box a) (.box [.bool false, .slice nilSl, .slice nilSl]) s))
 ((f7_j2 o K C (.box b) (.box a) (.box [.bool false, .slice nilSl, .slice nilSl]) d)))))
def f8 (o : Ops) (K : Nat) (C : CallC) (b c d a : SV) (H : Heap) : Rs :=
 o.len a fun e =>
 o.eql e (.int .i64 0) fun f =>
 (o.cond f
 (o.build [.bool false, .slice nilSl, .slice nilSl] [] [] fun g =>
 o.bstore 0 3 (.box [.bool false, .slice nilSl, .slice nilSl]) g fun h =>
 o.resc 3 true (.box h) fun i =>
 some (.tuple [i, (.bool false)], H))
 (o.b_neq b d fun j =>
 o.call (C 28 [j, c, a] H) fun k l =>
 o.bstore 0 3 (.box [.bool false, .slice nilSl, .slice nilSl]) k fun m =>
 o.resc 3 true (.box m) fun n =>
 some (.tuple [n, (.bool true)], l)))
def f9 (o : Ops) (K : Nat) (C : CallC) (c : SV) (H : Heap) : Rs :=
 o.bbox c fun a =>
 o.lfld 2 (.box a) fun d =>
 o.lloadp 1 true (.box a) d fun e =>
 o.call (C 29 [e] H) fun f b =>
 o.eql f (.int .i64 0) fun g =>
 (o.cond g
 (o.lfld 0 (.box a) fun h =>
 o.lloadp 2 true (.box a) h fun i =>
 o.call (C 18 [i] b) fun j k =>
 o.rest j fun l =>
 some (l, k))
 (o.lfld 0 (.box a) fun m =>
 o.lloadp 2 true (.box a) m fun n =>
 o.call (C 18 [n] b) fun p q =>
 o.add p (.str [47]) fun r =>
 o.lload 0 3 true (.box a) fun s =>
 o.call (C 30 [s] q) fun t u =>
 o.call (C 31 [t] u) fun v w =>
 o.add r v fun x =>
 o.rest x fun y =>
 some (y, w)))
def f10_j2 (o : Ops) (K : Nat) (C : CallC) (a : SV) (b : Heap) : Rs :=
 o.rest a fun c =>
 some (c, b)
def f10_j1 (o : Ops) (K : Nat) (C : CallC) (a b d : SV) (c : Heap) : Rs :=
 (o.cond d
 (o.add b (.str [47]) fun e =>
 o.lfld 2 a fun f =>
 o.lloadp 1 false a f fun g =>
 o.call (C 32 [g] c) fun h i =>
 o.add e h fun j =>
 (f10_j2 o K C j i))
 ((f10_j2 o K C b c)))
def f10 (o : Ops) (K : Nat) (C : CallC) (d : SV) (H : Heap) : Rs :=
 o.bbox d fun a =>
 o.lfld 0 (.box a) fun e =>
 o.lloadp 1 false (.box a) e fun f =>
 o.lfld 1 (.box a) fun g =>
 o.lloadp 1 false (.box a) g fun h =>
 o.call (C 12 [f, h] H) fun c b =>
 o.lfld 2 (.box a) fun i =>
 o.lloadp 1 false (.box a) i fun j =>
 o.len j fun k =>
 o.gtr k (.int .i64 1) fun l =>
 (o.guard l
 ((f10_j1 o K C (.box a) c (.bool true) b))
 (o.lfld 2 (.box a) fun m =>
 o.lloadp 1 false (.box a) m fun n =>
 o.len n fun p =>
 o.eql p (.int .i64 1) fun q =>
 (o.guard q
 (o.lfld 2 (.box a) fun r =>
 o.lloadp 1 false (.box a) r fun s =>
 o.idx 1 s (.int .i64 0) fun t =>
 o.load 1 false t b fun u =>
 o.gtr u (.int .u32 1) fun v =>
 (f10_j1 o K C (.box a) c v b))
 ((f10_j1 o K C (.box a) c (.bool false) b))
 (none)))
 (none))
def f11 (o : Ops) (K : Nat) (C : CallC) (a : SV) (H : Heap) : Rs :=
 o.bbox a fun b =>
 o.lload 0 2 true (.box b) fun c =>
 o.build [.bool false, .slice nilSl, .slice nilSl] [(0, 2)] [c] fun d =>
 o.bstore 0 3 (.box [.bool false, .slice nilSl, .slice nilSl]) d fun e =>
 o.resc 3 true (.box e) fun f =>
 some (f, H)
def f12_j2 (o : Ops) (K : Nat) (C : CallC) (a : SV) (b : Heap) : Rs :=
 o.rest a fun c =>
 some (c, b)
def f12_j1 (o : Ops) (K : Nat) (C : CallC) (a c : SV) (b : Heap) : Rs :=
 (o.cond c
 (o.add (.str [45]) a fun d =>
 (f12_j2 o K C d b))
 ((f12_j2 o K C a b)))
def f12 (o : Ops) (K : Nat) (C : CallC) (d a : SV) (H : Heap) : Rs :=
 o.call (C 32 [a] H) fun b c =>
 (o.guard d
 (o.len a fun e =>
 o.gtr e (.int .i64 0) fun f =>
 (f12_j1 o K C b f c))
 ((f12_j1 o K C b (.bool false) c))
 (none))
def f13 (o : Ops) (K : Nat) (C : CallC) (a : SV) (H : Heap) : Rs :=
 o.lss a (.int .i64 0) fun b =>
 (o.cond b
 (o.conv .u64 a fun c =>
 o.u_neg c fun d =>
 o.call (C 33 [d] H) fun e f =>
 o.build [.bool false, .slice nilSl] [(0, 1), (1, 1)] [(.bool true), e] fun g =>
 o.bstore 0 2 (.box [.bool false, .slice nilSl]) g fun h =>
 o.resc 2 true (.box h) fun i =>
 some (i, f))
 (o.conv .u64 a fun j =>
 o.call (C 33 [j] H) fun k l =>
 o.build [.bool false, .slice nilSl] [(1, 1)] [k] fun m =>
 o.bstore 0 2 (.box [.bool false, .slice nilSl]) m fun n =>
 o.resc 2 true (.box n) fun p =>
 some (p, l)))
def f14_j5 (o : Ops) (K : Nat) (C : CallC) (a c d e f : SV) (b : Heap) : Rs :=
 (o.cond f
 (o.build [.bool false, .slice nilSl, .slice nilSl] [] [] fun g =>
 o.bstore 0 3 a g fun h =>
 o.resc 3 true (.box h) fun i =>
 some (.tuple [i, (.int .i64 12)], b))
 (o.lload 0 1 true d fun j =>
 o.call (C 42 [c, j] b) fun k l =>
 o.lload 0 1 true e fun m =>
 o.call (C 26 [k, m] l) fun n p =>
 o.bstore 0 3 a n fun q =>
 o.resc 3 true (.box q) fun r =>
 some (.tuple [r, (.int .i64 0)], p)))
def f14_j8 (o : Ops) (K : Nat) (C : CallC) (a c : SV) (b : Heap) : Rs :=
 (o.cond c
 (o.build [.bool false, .slice nilSl, .slice nilSl] [] [] fun d =>
 o.bstore 0 3 a d fun e =>
 o.resc 3 true (.box e) fun f =>
 some (.tuple [f, (.int .i64 12)], b))
 (o.build [.bool false, .slice nilSl, .slice nilSl] [] [] fun g =>
 o.bstore 0 3 a g fun h =>
 o.resc 3 true (.box h) fun i =>
 some (.tuple [i, (.int .i64 3)], b)))
def f14_j4 (o : Ops) (K : Nat) (C : CallC) (a h i e f b c j : SV) (d : Heap) : Rs :=
 (o.cond j
 (o.lload 0 1 true b fun k =>
 o.lload 0 1 true c fun l =>
 o.call (C 40 [k, l] d) fun m n =>
 o.call (C 41 [] n) fun p q =>
 o.call (C 39 [m, p] q) fun r g =>
 o.neq r (.int .i64 0) fun s =>
 (o.guard s
 ((f14_j5 o K C a f b c e g))
 ((f14_j5 o K C a f b c (.bool false) g))
 (none)))
 ((o.guard e
 (o.call (C 43 [h, i] d) fun t u =>
 o.u_not t fun v =>
 (f14_j8 o K C a v u))
 ((f14_j8 o K C a (.bool false) d))
 (none))))
def f14_j2 (o : Ops) (K : Nat) (C : CallC) (a b c d e l : SV) (f : Heap) : Rs :=
 (o.cond l
 (o.build [.bool false, .slice nilSl, .slice nilSl] [] [] fun m =>
 o.bstore 0 3 a m fun n =>
 o.resc 3 true (.box n) fun p =>
 some (.tuple [p, (.int .i64 12)], f))
 (o.call (C 38 [b] f) fun g q =>
 o.ext 0 g fun r =>
 o.ext 1 g fun s =>
 o.bstore 0 1 (.box [.slice nilSl]) r fun h =>
 o.call (C 38 [c] q) fun i j =>
 o.ext 0 i fun t =>
 o.ext 1 i fun u =>
 o.bstore 0 1 (.box [.slice nilSl]) t fun k =>
 o.eql s (.int .i64 0) fun v =>
 (o.guard v
 (o.eql u (.int .i64 0) fun w =>
 (f14_j4 o K C a b c d e (.box h) (.box k) w j))
 ((f14_j4 o K C a b c d e (.box h) (.box k) (.bool false) j))
 (none))))
def f14_j1 (o : Ops) (K : Nat) (C : CallC) (e a b d c : SV) (h : Heap) : Rs :=
 o.call (C 37 [a] h) fun i g =>
 o.u_not i fun j =>
 (o.guard j
 ((f14_j2 o K C e a b d c (.bool true) g))
 (o.call (C 37 [b] g) fun k f =>
 o.u_not k fun l =>
 (o.guard l
 ((f14_j2 o K C e a b d c (.bool true) f))
 (o.eql b (.str [48]) fun m =>
 (o.guard m
 ((f14_j2 o K C e a b d c (.bool true) f))
 ((o.guard d
 (o.eql b (.str [49]) fun n =>
 (o.guard n
 ((f14_j2 o K C e a b d c (.bool true) f))
 (o.eql a (.str [48]) fun p =>
 (o.guard p
 ((f14_j2 o K C e a b d c (.bool true) f))
 ((o.guard c
 (o.eql a (.str [48]) fun q =>
 (f14_j2 o K C e a b d c q f))
 ((f14_j2 o K C e a b d c (.bool false) f))
 (none)))
 (none)))
 (none)))
 ((o.guard c
 (o.eql a (.str [48]) fun r =>
 (f14_j2 o K C e a b d c r f))
 ((f14_j2 o K C e a b d c (.bool false) f))
 (none)))
 (none)))
 (none)))
 (none)))
 (none))
def f14 (o : Ops) (K : Nat) (C : CallC) (g : SV) (H : Heap) : Rs :=
 o.call (C 34 [g, (.str [47])] H) fun a h =>
 o.ext 0 a fun c =>
 o.ext 1 a fun i =>
 o.ext 2 a fun b =>
 o.call (C 35 [c, (.str [45])] h) fun d j =>
 o.call (C 36 [c, (.str [45])] j) fun e f =>
 o.u_not b fun k =>
 (o.cond k
 ((f14_j1 o K C (.box [.bool false, .slice nilSl, .slice nilSl]) e (.str [49]) b d f))
 ((f14_j1 o K C (.box [.bool false, .slice nilSl, .slice nilSl]) e i b d f)))
def f15 (o : Ops) (K : Nat) (C : CallC) (b c : SV) (H : Heap) : Rs :=
 o.bbox b fun d =>
 o.bbox c fun e =>
 o.lload 0 3 true (.box d) fun f =>
 o.lload 0 3 true (.box e) fun g =>
 o.call (C 44 [f, g, (.fn 45 [] [])] H) fun a h =>
 o.ext 0 a fun i =>
 o.ext 1 a fun j =>
 o.bstore 0 3 (.box [.bool false, .slice nilSl, .slice nilSl]) i fun k =>
 o.resc 3 true (.box k) fun l =>
 o.rest j fun m =>
 some (.tuple [l, m], h)
def f16 (o : Ops) (K : Nat) (C : CallC) (d e : SV) (H : Heap) : Rs :=
 o.bbox d fun f =>
 o.bbox e fun a =>
 o.lload 0 3 true (.box a) fun g =>
 o.call (C 46 [g] H) fun h b =>
 o.eql h (.int .i64 0) fun i =>
 (o.cond i
 (o.build [.bool false, .slice nilSl, .slice nilSl] [] [] fun j =>
 o.bstore 0 3 (.box [.bool false, .slice nilSl, .slice nilSl]) j fun k =>
 o.resc 3 true (.box k) fun l =>
 some (.tuple [l, (.int .i64 11)], b))
 (o.lload 0 3 true (.box f) fun m =>
 o.lload 0 3 true (.box a) fun n =>
 o.call (C 46 [n] b) fun p q =>
 o.lss p (.int .i64 0) fun r =>
 o.lload 0 3 true (.box a) fun s =>
 o.call (C 30 [s] q) fun t u =>
 o.call (C 42 [r, t] u) fun v w =>
 o.lfld 0 (.box a) fun x =>
 o.lloadp 2 true (.box a) x fun y =>
 o.call (C 27 [y] w) fun z A =>
 o.call (C 47 [m, v, z] A) fun c B =>
 o.ext 0 c fun D =>
 o.ext 1 c fun E =>
 o.bstore 0 3 (.box [.bool false, .slice nilSl, .slice nilSl]) D fun F =>
 o.resc 3 true (.box F) fun G =>
 o.rest E fun I =>
 some (.tuple [G, I], B)))
def f17_j2 (o : Ops) (K : Nat) (C : CallC) (a b : SV) (c : Heap) : Rs :=
 o.lload 0 1 true b fun d =>
 o.call (C 42 [(.bool true), d] c) fun e f =>
 o.bstore 0 2 a e fun g =>
 o.resc 2 true (.box g) fun h =>
 some (h, f)
def f17 (o : Ops) (K : Nat) (C : CallC) (g : SV) (H : Heap) : Rs :=
 o.bbox g fun a =>
 o.lfld 0 (.box a) fun h =>
 o.lloadp 2 true (.box a) h fun i =>
 o.call (C 27 [i] H) fun j k =>
 o.lload 0 3 true (.box a) fun l =>
 o.call (C 30 [l] k) fun m n =>
 o.call (C 48 [j, m] n) fun c p =>
 o.ext 0 c fun q =>
 o.ext 1 c fun r =>
 o.ext 2 c fun S =>
 o.bstore 0 1 (.box [.slice nilSl]) q fun b =>
 o.bstore 0 1 (.box [.slice nilSl]) r fun T =>
 o.lfld 0 (.box a) fun s =>
 o.lloadp 2 true (.box a) s fun t =>
 o.call (C 24 [t] p) fun u d =>
 o.geq u (.int .i64 0) fun v =>
 (o.cond v
 (o.lload 0 1 true (.box b) fun w =>
 o.call (C 42 [(.bool false), w] d) fun x y =>
 o.bstore 0 2 (.box [.bool false, .slice nilSl]) x fun z =>
 o.resc 2 true (.box z) fun A =>
 some (A, y))
 (o.lload 0 3 true (.box a) fun B =>
 o.mkfn 49 1 [B] fun D =>
 o.callv C [D] d fun E F =>
 o.call (C 29 [E] F) fun G e =>
 o.gtr G (.int .i64 0) fun I =>
 (o.cond I
 (o.lload 0 1 true (.box b) fun J =>
 o.call (C 41 [] e) fun L M =>
 o.call (C 50 [J, L] M) fun f N =>
 o.ext 0 f fun P =>
 o.ext 1 f fun U =>
 o.bstore 0 1 (.box b) P fun Q =>
 (f17_j2 o K C (.box [.bool false, .slice nilSl]) (.box Q) N))
 ((f17_j2 o K C (.box [.bool false, .slice nilSl]) (.box b) e)))))
def f18 (o : Ops) (K : Nat) (C : CallC) (b : SV) (H : Heap) : Rs :=
 o.bbox b fun a =>
 o.lfld 0 (.box a) fun c =>
 o.lloadp 1 false (.box a) c fun d =>
 (o.cond d
 (o.lfld 1 (.box a) fun e =>
 o.lloadp 1 true (.box a) e fun f =>
 o.call (C 31 [f] H) fun g h =>
 o.add (.str [45]) g fun i =>
 o.rest i fun j =>
 some (j, h))
 (o.lfld 1 (.box a) fun k =>
 o.lloadp 1 true (.box a) k fun l =>
 o.call (C 31 [l] H) fun m n =>
 o.rest m fun p =>
 some (p, n)))
def f19 (o : Ops) (K : Nat) (C : CallC) (g : SV) (H : Heap) : Rs :=
 o.bbox g fun a =>
 o.lload 0 3 true (.box a) fun h =>
 o.call (C 49 [h] H) fun i j =>
 o.lload 0 3 true (.box a) fun k =>
 o.call (C 17 [k] j) fun l m =>
 o.bstore 0 1 (.box [.slice nilSl]) i fun b =>
 o.bstore 0 2 (.box [.bool false, .slice nilSl]) l fun c =>
 o.lload 0 3 true (.box a) fun n =>
 o.call (C 30 [n] m) fun p q =>
 o.lload 0 1 true (.box b) fun r =>
 o.call (C 51 [p, r] q) fun d s =>
 o.ext 0 d fun t =>
 o.ext 1 d fun P =>
 o.bstore 0 1 (.box [.slice nilSl]) t fun u =>
 o.lload 0 1 true (.box b) fun v =>
 o.lload 0 1 true (.box u) fun w =>
 o.call (C 39 [v, w] s) fun x e =>
 o.lss x (.int .i64 0) fun y =>
 (o.cond y
 (o.lload 0 2 true (.box c) fun z =>
 o.bstore 0 2 (.box [.bool false, .slice nilSl]) z fun A =>
 o.resc 2 true (.box A) fun B =>
 some (B, e))
 (o.lload 0 2 true (.box c) fun D =>
 o.call (C 13 [(.int .i64 1)] e) fun E F =>
 o.call (C 45 [D, E] F) fun f G =>
 o.ext 0 f fun I =>
 o.ext 1 f fun Q =>
 o.bstore 0 2 (.box [.bool false, .slice nilSl]) I fun J =>
 o.lload 0 2 true (.box J) fun L =>
 o.bstore 0 2 (.box [.bool false, .slice nilSl]) L fun M =>
 o.resc 2 true (.box M) fun N =>
 some (N, G)))
def f20_j3 (o : Ops) (K : Nat) (C : CallC) (i : SV -> SV -> SV -> Heap -> Rs) (b c a d e j : SV) (f : Heap) : Rs :=
 (o.cond j
 (some ((.int .i64 0), f))
 (o.lload 0 1 true d fun k =>
 o.call (C 29 [k] f) fun l g =>
 o.eql l (.int .i64 0) fun m =>
 (o.cond m
 (o.u_neg a fun n =>
 o.rest n fun p =>
 some (p, g))
 (o.lload 0 1 true e fun q =>
 o.call (C 29 [q] g) fun r h =>
 o.eql r (.int .i64 0) fun s =>
 (o.cond s
 (o.rest a fun t =>
 some (t, h))
 (o.lload 0 3 true b fun u =>
 o.call (C 30 [u] h) fun v w =>
 o.lload 0 1 true d fun x =>
 o.call (C 53 [v, x] w) fun y z =>
 o.lload 0 3 true c fun A =>
 o.call (C 30 [A] z) fun B D =>
 o.lload 0 1 true e fun E =>
 o.call (C 53 [B, E] D) fun F G =>
 o.u_neg a fun I =>
 o.bstore 0 3 b y fun J =>
 o.bstore 0 3 c F fun L =>
 i (.box J) (.box L) I G))))))
def f20_l1 (o : Ops) (K : Nat) (C : CallC) : SV -> SV -> SV -> Heap -> (SV -> SV -> SV -> Heap -> Rs) -> Rs := fun a b c j f =>
 o.lload 0 3 true a fun k =>
 o.call (C 17 [k] j) fun l m =>
 o.lload 0 3 true b fun n =>
 o.call (C 17 [n] m) fun p q =>
 o.bstore 0 2 (.box [.bool false, .slice nilSl]) l fun r =>
 o.bstore 0 2 (.box [.bool false, .slice nilSl]) p fun s =>
 o.lload 0 2 true (.box r) fun t =>
 o.lload 0 2 true (.box s) fun u =>
 o.call (C 52 [t, u] q) fun g h =>
 o.neq g (.int .i64 0) fun v =>
 (o.cond v
 (o.mul c g fun w =>
 o.rest w fun x =>
 some (x, h))
 (o.lload 0 3 true a fun y =>
 o.call (C 49 [y] h) fun z A =>
 o.lload 0 3 true b fun B =>
 o.call (C 49 [B] A) fun D E =>
 o.bstore 0 1 (.box [.slice nilSl]) z fun d =>
 o.bstore 0 1 (.box [.slice nilSl]) D fun e =>
 o.lload 0 1 true (.box d) fun F =>
 o.call (C 29 [F] E) fun G i =>
 o.eql G (.int .i64 0) fun I =>
 (o.guard I
 (o.lload 0 1 true (.box e) fun J =>
 o.call (C 29 [J] i) fun L M =>
 o.eql L (.int .i64 0) fun N =>
 (f20_j3 o K C f a b c (.box d) (.box e) N M))
 ((f20_j3 o K C f a b c (.box d) (.box e) (.bool false) i))
 (none))))
def f20 (o : Ops) (K : Nat) (C : CallC) (a b : SV) (H : Heap) : Rs :=
 o.bbox a fun c =>
 o.bbox b fun d =>
 o.lload 0 3 true (.box c) fun e =>
 o.lload 0 3 true (.box d) fun f =>
 o.bstore 0 3 (.box [.bool false, .slice nilSl, .slice nilSl]) e fun g =>
 o.bstore 0 3 (.box [.bool false, .slice nilSl, .slice nilSl]) f fun h =>
 (o.loop3 (f20_l1 o K C) K (.box g) (.box h) (.int .i64 1) H)
def f21_j5 (o : Ops) (K : Nat) (C : CallC) (b : SV -> SV -> Heap -> Rs) (c d e : SV) (a : Heap) : Rs :=
 (o.cond e
 (some ((.bool false), a))
 (o.add d (.int .i64 1) fun f =>
 b c f a))
def f21_l3 (o : Ops) (K : Nat) (C : CallC) : SV -> SV -> Heap -> (SV -> SV -> Heap -> Rs) -> Rs := fun a b c d =>
 o.slen a fun e =>
 o.lss b e fun f =>
 (o.cond f
 (o.stridx a b fun g =>
 o.lss g (.int .u8 48) fun h =>
 (o.guard h
 ((f21_j5 o K C d a b (.bool true) c))
 (o.stridx a b fun i =>
 o.gtr i (.int .u8 57) fun j =>
 (f21_j5 o K C d a b j c))
 (none)))
 (some ((.bool true), c)))
def f21_j1 (o : Ops) (K : Nat) (C : CallC) (b c : SV) (a : Heap) : Rs :=
 (o.cond c
 (some ((.bool false), a))
 ((o.loop2 (f21_l3 o K C) K b (.int .i64 0) a)))
def f21 (o : Ops) (K : Nat) (C : CallC) (a : SV) (H : Heap) : Rs :=
 o.slen a fun b =>
 o.eql b (.int .i64 0) fun c =>
 (o.guard c
 ((f21_j1 o K C a (.bool true) H))
 (o.slen a fun d =>
 o.gtr d (.int .i64 1) fun e =>
 (o.guard e
 (o.stridx a (.int .i64 0) fun f =>
 o.eql f (.int .u8 48) fun g =>
 (f21_j1 o K C a g H))
 ((f21_j1 o K C a (.bool false) H))
 (none)))
 (none))
def f22_l2 (o : Ops) (K : Nat) (C : CallC) : SV -> SV -> SV -> Heap -> (SV -> SV -> SV -> Heap -> Rs) -> Rs := fun a b c d f =>
 o.slen a fun g =>
 o.lss c g fun h =>
 (o.cond h
 (o.call (C 56 [(.int .u64 10)] d) fun i j =>
 o.call (C 55 [b, i] j) fun k l =>
 o.stridx a c fun m =>
 o.sub m (.int .u8 48) fun n =>
 o.conv .u64 n fun p =>
 o.call (C 56 [p] l) fun q r =>
 o.call (C 54 [k, q] r) fun s t =>
 o.add c (.int .i64 1) fun u =>
 f a s u t)
 (o.call (C 57 [b] d) fun v e =>
 (o.cond v
 (some (.tuple [(.slice nilSl), (.bool false)], e))
 (o.rest b fun w =>
 some (.tuple [w, (.bool true)], e)))))
def f22 (o : Ops) (K : Nat) (C : CallC) (a : SV) (H : Heap) : Rs :=
 o.slen a fun b =>
 o.gtr b (.int .i64 1300) fun c =>
 (o.cond c
 (some (.tuple [(.slice nilSl), (.bool false)], H))
 ((o.loop3 (f22_l2 o K C) K a (.slice nilSl) (.int .i64 0) H)))
def f23_j2 (o : Ops) (K : Nat) (C : CallC) (f a g h : SV) (b : Heap) : Rs :=
 o.eql f (.str [45, 48]) fun i =>
 (o.cond i
 (o.build [.bool false, .slice nilSl] [] [] fun j =>
 o.bstore 0 2 a j fun k =>
 o.resc 2 true (.box k) fun l =>
 some (.tuple [l, (.int .i64 12)], b))
 (o.call (C 38 [g] b) fun c d =>
 o.ext 0 c fun m =>
 o.ext 1 c fun e =>
 o.bstore 0 1 (.box [.slice nilSl]) m fun n =>
 o.neq e (.int .i64 0) fun p =>
 (o.cond p
 (o.build [.bool false, .slice nilSl] [] [] fun q =>
 o.bstore 0 2 a q fun r =>
 o.resc 2 true (.box r) fun s =>
 o.rest e fun t =>
 some (.tuple [s, t], d))
 (o.lload 0 1 true (.box n) fun u =>
 o.call (C 42 [h, u] d) fun v w =>
 o.bstore 0 2 a v fun x =>
 o.resc 2 true (.box x) fun y =>
 some (.tuple [y, (.int .i64 0)], w)))))
def f23_j1 (o : Ops) (K : Nat) (C : CallC) (a c e b : SV) (d : Heap) : Rs :=
 (o.cond b
 (o.strcut10 a (.int .i64 1) fun f =>
 (f23_j2 o K C a c f b d))
 ((f23_j2 o K C a c e b d)))
def f23 (o : Ops) (K : Nat) (C : CallC) (a : SV) (H : Heap) : Rs :=
 o.slen a fun b =>
 o.gtr b (.int .i64 0) fun c =>
 (o.guard c
 (o.stridx a (.int .i64 0) fun d =>
 o.eql d (.int .u8 45) fun e =>
 (f23_j1 o K C a (.box [.bool false, .slice nilSl]) a e H))
 ((f23_j1 o K C a (.box [.bool false, .slice nilSl]) a (.bool false) H))
 (none))
def f24 (o : Ops) (K : Nat) (C : CallC) (c : SV) (H : Heap) : Rs :=
 o.bbox c fun a =>
 o.lfld 1 (.box a) fun d =>
 o.lloadp 1 true (.box a) d fun e =>
 o.call (C 29 [e] H) fun f b =>
 o.eql f (.int .i64 0) fun g =>
 (o.cond g
 (some ((.int .i64 0), b))
 (o.lfld 0 (.box a) fun h =>
 o.lloadp 1 false (.box a) h fun i =>
 (o.cond i
 (some ((.int .i64 (-1)), b))
 (some ((.int .i64 1), b)))))
def f25 (o : Ops) (K : Nat) (C : CallC) (b : SV) (H : Heap) : Rs :=
 o.bbox b fun a =>
 o.lfld 0 (.box a) fun c =>
 o.lloadp 1 false (.box a) c fun d =>
 o.u_not d fun e =>
 o.lfld 1 (.box a) fun f =>
 o.lloadp 1 true (.box a) f fun g =>
 o.call (C 42 [e, g] H) fun h i =>
 o.bstore 0 2 (.box [.bool false, .slice nilSl]) h fun j =>
 o.resc 2 true (.box j) fun k =>
 some (k, i)
def f26_j1 (o : Ops) (K : Nat) (C : CallC) (b c d : SV) (e : Heap) : Rs :=
 o.lload 0 1 true c fun f =>
 o.call (C 41 [] e) fun g h =>
 o.call (C 51 [f, g] h) fun a i =>
 o.ext 0 a fun j =>
 o.ext 1 a fun r =>
 o.bstore 0 1 (.box [.slice nilSl]) j fun k =>
 o.lload 0 2 true b fun l =>
 o.lload 0 1 true (.box k) fun m =>
 o.build [.bool false, .slice nilSl, .slice nilSl] [(0, 2), (2, 1)] [l, m] fun n =>
 o.bstore 0 3 d n fun p =>
 o.resc 3 true (.box p) fun q =>
 some (q, i)
def f26 (o : Ops) (K : Nat) (C : CallC) (g h : SV) (H : Heap) : Rs :=
 o.bbox g fun a =>
 o.bbox h fun b =>
 o.lload 0 2 true (.box a) fun i =>
 o.call (C 27 [i] H) fun j k =>
 o.lload 0 1 true (.box b) fun l =>
 o.call (C 40 [j, l] k) fun m n =>
 o.bstore 0 1 (.box [.slice nilSl]) m fun c =>
 o.lload 0 1 true (.box c) fun p =>
 o.call (C 41 [] n) fun q r =>
 o.call (C 39 [p, q] r) fun s f =>
 o.gtr s (.int .i64 0) fun t =>
 (o.cond t
 (o.lload 0 2 true (.box a) fun u =>
 o.call (C 27 [u] f) fun v w =>
 o.lload 0 1 true (.box c) fun x =>
 o.call (C 48 [v, x] w) fun d y =>
 o.ext 0 d fun z =>
 o.ext 1 d fun A =>
 o.ext 2 d fun U =>
 o.bstore 0 1 (.box [.slice nilSl]) z fun B =>
 o.bstore 0 1 (.box [.slice nilSl]) A fun V =>
 o.lload 0 2 true (.box a) fun D =>
 o.call (C 24 [D] y) fun E F =>
 o.lss E (.int .i64 0) fun G =>
 o.lload 0 1 true (.box B) fun I =>
 o.call (C 42 [G, I] F) fun J L =>
 o.bstore 0 2 (.box a) J fun M =>
 o.lload 0 1 true (.box b) fun N =>
 o.lload 0 1 true (.box c) fun P =>
 o.call (C 48 [N, P] L) fun e Q =>
 o.ext 0 e fun S =>
 o.ext 1 e fun W =>
 o.ext 2 e fun X =>
 o.bstore 0 1 (.box b) S fun T =>
 (f26_j1 o K C (.box M) (.box T) (.box [.bool false, .slice nilSl, .slice nilSl]) Q))
 ((f26_j1 o K C (.box a) (.box b) (.box [.bool false, .slice nilSl, .slice nilSl]) f)))
def f27 (o : Ops) (K : Nat) (C : CallC) (b : SV) (H : Heap) : Rs :=
 o.bbox b fun a =>
 o.lfld 1 (.box a) fun c =>
 o.lloadp 1 true (.box a) c fun d =>
 o.bstore 0 1 (.box [.slice nilSl]) d fun e =>
 o.resc 1 true (.box e) fun f =>
 some (f, H)
def f28 (o : Ops) (K : Nat) (C : CallC) (f a b : SV) (H : Heap) : Rs :=
 o.len a fun g =>
 o.eql g (.int .i64 0) fun h =>
 (o.cond h
 (o.call (C 56 [(.int .u64 1)] H) fun i j =>
 o.build [.bool false, .slice nilSl, .slice nilSl] [(0, 1), (1, 1), (2, 1)] [(.bool false), (.slice nilSl), i] fun k =>
 o.bstore 0 3 (.box [.bool false, .slice nilSl, .slice nilSl]) k fun l =>
 o.resc 3 true (.box l) fun m =>
 some (m, j))
 (o.call (C 58 [a, b] H) fun c n =>
 o.call (C 59 [a, c] n) fun d p =>
 o.ext 0 d fun q =>
 o.ext 1 d fun w =>
 o.call (C 59 [b, c] p) fun e r =>
 o.ext 0 e fun s =>
 o.ext 1 e fun x =>
 o.build [.bool false, .slice nilSl, .slice nilSl] [(0, 1), (1, 1), (2, 1)] [f, q, s] fun t =>
 o.bstore 0 3 (.box [.bool false, .slice nilSl, .slice nilSl]) t fun u =>
 o.resc 3 true (.box u) fun v =>
 some (v, r)))
def f29 (o : Ops) (K : Nat) (C : CallC) (b : SV) (H : Heap) : Rs :=
 o.bbox b fun a =>
 o.lfld 0 (.box a) fun c =>
 o.lloadp 1 false (.box a) c fun d =>
 o.len d fun e =>
 o.eql e (.int .i64 0) fun f =>
 (o.cond f
 (some ((.int .i64 0), H))
 (o.lfld 0 (.box a) fun g =>
 o.lloadp 1 false (.box a) g fun h =>
 o.len h fun i =>
 o.sub i (.int .i64 1) fun j =>
 o.mul (.int .i64 32) j fun k =>
 o.lfld 0 (.box a) fun l =>
 o.lloadp 1 false (.box a) l fun m =>
 o.lfld 0 (.box a) fun n =>
 o.lloadp 1 false (.box a) n fun p =>
 o.len p fun q =>
 o.sub q (.int .i64 1) fun r =>
 o.idx 1 m r fun s =>
 o.load 1 false s H fun t =>
 o.call (C 60 [t] H) fun u v =>
 o.add k u fun w =>
 o.rest w fun x =>
 some (x, v)))
def f30 (o : Ops) (K : Nat) (C : CallC) (d : SV) (H : Heap) : Rs :=
 o.bbox d fun a =>
 o.lfld 2 (.box a) fun e =>
 o.lloadp 1 true (.box a) e fun f =>
 o.call (C 41 [] H) fun g h =>
 o.call (C 50 [f, g] h) fun b c =>
 o.ext 0 b fun i =>
 o.ext 1 b fun j =>
 o.bstore 0 1 (.box [.slice nilSl]) i fun k =>
 o.neq j (.int .i64 0) fun l =>
 (o.cond l
 (o.lfld 2 (.box a) fun m =>
 o.lloadp 1 true (.box a) m fun n =>
 o.bstore 0 1 (.box [.slice nilSl]) n fun p =>
 o.resc 1 true (.box p) fun q =>
 some (q, c))
 (o.lload 0 1 true (.box k) fun r =>
 o.bstore 0 1 (.box [.slice nilSl]) r fun s =>
 o.resc 1 true (.box s) fun t =>
 some (t, c)))
def f31_j5 (o : Ops) (K : Nat) (C : CallC) (e : SV -> SV -> Heap -> Rs) (f : SV -> SV -> SV -> SV -> Heap -> Rs) (a b c g h : SV) (d : Heap) : Rs :=
 (o.cond h
 (o.rem c (.int .u32 10) fun i =>
 o.add (.int .u32 48) i fun j =>
 o.conv .u8 j fun k =>
 o.hbuild 1 [.int .u8 0] [(0, 1)] [k] d fun l m =>
 o.append 1 1 b l m fun n p =>
 o.quo c (.int .u32 10) fun q =>
 o.add g (.int .i64 1) fun r =>
 f a n q r p)
 (e a b d))
def f31_l4 (o : Ops) (K : Nat) (C : CallC) (d : SV -> SV -> Heap -> Rs) : SV -> SV -> SV -> SV -> Heap -> (SV -> SV -> SV -> SV -> Heap -> Rs) -> Rs := fun a e b c f g =>
 o.lss c (.int .i64 9) fun h =>
 (o.guard h
 (o.len a fun i =>
 o.gtr i (.int .i64 0) fun j =>
 (o.guard j
 ((f31_j5 o K C d g a e b c (.bool true) f))
 (o.gtr b (.int .u32 0) fun k =>
 (f31_j5 o K C d g a e b c k f))
 (none)))
 ((f31_j5 o K C d g a e b c (.bool false) f))
 (none))
def f31_l11 (o : Ops) (K : Nat) (C : CallC) : SV -> SV -> SV -> Heap -> (SV -> SV -> SV -> Heap -> Rs) -> Rs := fun a c d b e =>
 o.lss c d fun f =>
 (o.cond f
 (o.idx 1 a d fun g =>
 o.load 1 false g b fun h =>
 o.idx 1 a c fun i =>
 o.load 1 false i b fun j =>
 o.idx 1 a c fun k =>
 o.store 1 k h b fun l =>
 o.idx 1 a d fun m =>
 o.store 1 m j l fun n =>
 o.add c (.int .i64 1) fun p =>
 o.sub d (.int .i64 1) fun q =>
 e a p q n)
 (o.str a b fun r =>
 o.rest r fun s =>
 some (s, b)))
def f31_l2 (o : Ops) (K : Nat) (C : CallC) : SV -> SV -> Heap -> (SV -> SV -> Heap -> Rs) -> Rs := fun a b c d =>
 o.len a fun e =>
 o.gtr e (.int .i64 0) fun f =>
 (o.cond f
 (o.call (C 61 [a, (.int .u32 1000000000)] c) fun g h =>
 o.call (C 62 [a] h) fun i j =>
 o.fieldv 0 1 false i fun k =>
 (o.loop4 (f31_l4 o K C d) K k b g (.int .i64 0) j))
 (o.len b fun l =>
 o.sub l (.int .i64 1) fun m =>
 (o.loop3 (f31_l11 o K C) K b (.int .i64 0) m c)))
def f31 (o : Ops) (K : Nat) (C : CallC) (b : SV) (H : Heap) : Rs :=
 o.bbox b fun a =>
 o.lfld 0 (.box a) fun c =>
 o.lloadp 1 false (.box a) c fun d =>
 o.len d fun e =>
 o.eql e (.int .i64 0) fun f =>
 (o.cond f
 (some ((.str [48]), H))
 (o.lfld 0 (.box a) fun g =>
 o.lloadp 1 false (.box a) g fun h =>
 o.append 1 4 (.slice nilSl) h H fun i j =>
 (o.loop2 (f31_l2 o K C) K i (.slice nilSl) j)))
def f32_j5 (o : Ops) (K : Nat) (C : CallC) (f : SV -> SV -> Heap -> Rs) (g : SV -> SV -> SV -> SV -> Heap -> Rs) (a b c h i : SV) (d : Heap) : Rs :=
 (o.cond i
 (o.rem c (.int .u64 10) fun j =>
 o.add (.int .u64 48) j fun k =>
 o.conv .u8 k fun l =>
 o.hbuild 1 [.int .u8 0] [(0, 1)] [l] d fun m e =>
 o.str m e fun n =>
 o.add n a fun p =>
 o.quo c (.int .u64 10) fun q =>
 o.add h (.int .i64 1) fun r =>
 g p b q r e)
 (f b a d))
def f32_l4 (o : Ops) (K : Nat) (C : CallC) (d : SV -> SV -> Heap -> Rs) : SV -> SV -> SV -> SV -> Heap -> (SV -> SV -> SV -> SV -> Heap -> Rs) -> Rs := fun e a b c f g =>
 o.lss c (.int .i64 4) fun h =>
 (o.guard h
 (o.len a fun i =>
 o.gtr i (.int .i64 0) fun j =>
 (o.guard j
 ((f32_j5 o K C d g e a b c (.bool true) f))
 (o.gtr b (.int .u64 0) fun k =>
 (f32_j5 o K C d g e a b c k f))
 (none)))
 ((f32_j5 o K C d g e a b c (.bool false) f))
 (none))
def f32_l2 (o : Ops) (K : Nat) (C : CallC) : SV -> SV -> Heap -> (SV -> SV -> Heap -> Rs) -> Rs := fun a b c f =>
 o.len a fun g =>
 o.gtr g (.int .i64 0) fun h =>
 (o.cond h
 (o.call (C 56 [(.int .u64 10000)] c) fun i j =>
 o.call (C 59 [a, i] j) fun d k =>
 o.ext 0 d fun l =>
 o.ext 1 d fun m =>
 o.call (C 63 [m] k) fun e n =>
 o.ext 0 e fun p =>
 o.ext 1 e fun r =>
 (o.loop4 (f32_l4 o K C f) K b l p (.int .i64 0) n))
 (o.rest b fun q =>
 some (q, c)))
def f32 (o : Ops) (K : Nat) (C : CallC) (a : SV) (H : Heap) : Rs :=
 o.len a fun b =>
 o.eql b (.int .i64 0) fun c =>
 (o.cond c
 (some ((.str [48]), H))
 ((o.loop2 (f32_l2 o K C) K a (.str []) H)))
def f33 (o : Ops) (K : Nat) (C : CallC) (a : SV) (H : Heap) : Rs :=
 o.conv .u32 a fun b =>
 o.shr a (.int .u64 32) fun c =>
 o.conv .u32 c fun d =>
 o.hbuild 1 [.int .u32 0, .int .u32 0] [(0, 1), (1, 1)] [b, d] H fun e f =>
 o.call (C 62 [e] f) fun g h =>
 o.bstore 0 1 (.box [.slice nilSl]) g fun i =>
 o.resc 1 true (.box i) fun j =>
 some (j, h)
def f34 (o : Ops) (K : Nat) (C : CallC) (b c : SV) (H : Heap) : Rs :=
 o.call (C 64 [b, c] H) fun a d =>
 o.ext 0 a fun e =>
 o.ext 1 a fun f =>
 o.ext 2 a fun g =>
 o.rest e fun h =>
 o.rest f fun i =>
 o.rest g fun j =>
 some (.tuple [h, i, j], d)
def f35 (o : Ops) (K : Nat) (C : CallC) (a b : SV) (H : Heap) : Rs :=
 o.call (C 65 [a, b] H) fun c d =>
 o.rest c fun e =>
 some (e, d)
def f36 (o : Ops) (K : Nat) (C : CallC) (a b : SV) (H : Heap) : Rs :=
 o.call (C 66 [a, b] H) fun c d =>
 o.rest c fun e =>
 some (e, d)
def f37_j1 (o : Ops) (K : Nat) (C : CallC) (a : SV) (b : Heap) : Rs :=
 o.rest a fun c =>
 some (c, b)
def f37 (o : Ops) (K : Nat) (C : CallC) (a : SV) (H : Heap) : Rs :=
 o.neq a (.str []) fun c =>
 (o.guard c
 (o.call (C 67 [a, (.str [48, 49, 50, 51, 52, 53, 54, 55, 56, 57])] H) fun d b =>
 o.eql d (.str []) fun e =>
 (o.guard e
 (o.slen a fun f =>
 o.eql f (.int .i64 1) fun g =>
 (o.guard g
 ((f37_j1 o K C (.bool true) b))
 (o.stridx a (.int .i64 0) fun h =>
 o.neq h (.int .u8 48) fun i =>
 (f37_j1 o K C i b))
 (none)))
 ((f37_j1 o K C (.bool false) b))
 (none)))
 ((f37_j1 o K C (.bool false) H))
 (none))
def f38_j5 (o : Ops) (K : Nat) (C : CallC) (c : SV -> SV -> SV -> SV -> Heap -> Rs) (d a e f g : SV) (b : Heap) : Rs :=
 (o.cond g
 (o.build [.slice nilSl] [] [] fun h =>
 o.bstore 0 1 a h fun i =>
 o.resc 1 true (.box i) fun j =>
 some (.tuple [j, (.int .i64 12)], b))
 (o.add f (.int .i64 1) fun k =>
 c d a e k b))
def f38_j20 (o : Ops) (K : Nat) (C : CallC) (a : SV -> SV -> SV -> Heap -> Rs) (b c d e : SV) (f : Heap) : Rs :=
 o.strcut10 b e fun g =>
 a g c d f
def f38_l16 (o : Ops) (K : Nat) (C : CallC) (h : SV -> SV -> SV -> Heap -> Rs) : SV -> SV -> SV -> SV -> SV -> SV -> SV -> SV -> Heap -> (SV -> SV -> SV -> SV -> SV -> SV -> SV -> SV -> Heap -> Rs) -> Rs := fun d e a f g i j b c l =>
 o.lss b j fun m =>
 (o.cond m
 (o.idx 1 a b fun n =>
 o.load 1 false n c fun p =>
 o.conv .u64 p fun q =>
 o.mul q i fun r =>
 o.add r g fun k =>
 o.conv .u32 k fun s =>
 o.shr k (.int .u64 32) fun t =>
 o.idx 1 a b fun u =>
 o.store 1 u s c fun v =>
 o.add b (.int .i64 1) fun w =>
 l d e a f t i j w v)
 (o.gtr g (.int .u64 0) fun x =>
 (o.cond x
 (o.conv .u32 g fun y =>
 o.hbuild 1 [.int .u32 0] [(0, 1)] [y] c fun z A =>
 o.append 1 4 a z A fun B D =>
 (f38_j20 o K C h d e B f D))
 ((f38_j20 o K C h d e a f c)))))
def f38_l12 (o : Ops) (K : Nat) (C : CallC) (j : SV -> SV -> SV -> Heap -> Rs) : SV -> SV -> SV -> SV -> SV -> SV -> SV -> SV -> Heap -> (SV -> SV -> SV -> SV -> SV -> SV -> SV -> SV -> Heap -> Rs) -> Rs := fun a d b e f g h c i k =>
 o.lss c h fun l =>
 (o.cond l
 (o.mul (.int .u64 10) f fun m =>
 o.stridx a c fun n =>
 o.sub n (.int .u8 48) fun p =>
 o.conv .u64 p fun q =>
 o.add m q fun r =>
 o.mul (.int .u64 10) g fun s =>
 o.add c (.int .i64 1) fun t =>
 k a d b e r s h t i)
 (o.len b fun u =>
 (o.loop8 (f38_l16 o K C j) K a d b e f g u (.int .i64 0) i)))
def f38_l10 (o : Ops) (K : Nat) (C : CallC) : SV -> SV -> SV -> Heap -> (SV -> SV -> SV -> Heap -> Rs) -> Rs := fun a b c d g =>
 o.slen a fun h =>
 o.gtr h (.int .i64 0) fun i =>
 (o.cond i
 (o.slen a fun j =>
 o.sub j (.int .i64 1) fun k =>
 o.rem k (.int .i64 9) fun l =>
 o.add l (.int .i64 1) fun e =>
 (o.loop8 (f38_l12 o K C g) K a b c e (.int .u64 0) (.int .u64 1) e (.int .i64 0) d))
 (o.call (C 62 [c] d) fun m n =>
 o.call (C 68 [m] n) fun f p =>
 o.ext 0 f fun q =>
 o.ext 1 f fun r =>
 o.bstore 0 1 b q fun s =>
 o.resc 1 true (.box s) fun t =>
 o.rest r fun u =>
 some (.tuple [t, u], p)))
def f38_l3 (o : Ops) (K : Nat) (C : CallC) : SV -> SV -> SV -> SV -> Heap -> (SV -> SV -> SV -> SV -> Heap -> Rs) -> Rs := fun a c e b d f =>
 o.lss b e fun g =>
 (o.cond g
 (o.stridx a b fun h =>
 o.lss h (.int .u8 48) fun i =>
 (o.guard i
 ((f38_j5 o K C f a c e b (.bool true) d))
 (o.stridx a b fun j =>
 o.gtr j (.int .u8 57) fun k =>
 (f38_j5 o K C f a c e b k d))
 (none)))
 (o.slen a fun l =>
 o.gtr l (.int .i64 4096) fun m =>
 (o.cond m
 (o.build [.slice nilSl] [] [] fun n =>
 o.bstore 0 1 c n fun p =>
 o.resc 1 true (.box p) fun q =>
 some (.tuple [q, (.int .i64 3)], d))
 ((o.loop3 (f38_l10 o K C) K a c (.slice nilSl) d)))))
def f38_j1 (o : Ops) (K : Nat) (C : CallC) (a b d : SV) (c : Heap) : Rs :=
 (o.cond d
 (o.build [.slice nilSl] [] [] fun e =>
 o.bstore 0 1 b e fun f =>
 o.resc 1 true (.box f) fun g =>
 some (.tuple [g, (.int .i64 12)], c))
 (o.slen a fun h =>
 (o.loop4 (f38_l3 o K C) K a b h (.int .i64 0) c)))
def f38 (o : Ops) (K : Nat) (C : CallC) (a : SV) (H : Heap) : Rs :=
 o.eql a (.str []) fun b =>
 (o.guard b
 ((f38_j1 o K C a (.box [.slice nilSl]) (.bool true) H))
 (o.slen a fun c =>
 o.gtr c (.int .i64 1) fun d =>
 (o.guard d
 (o.stridx a (.int .i64 0) fun e =>
 o.eql e (.int .u8 48) fun f =>
 (f38_j1 o K C a (.box [.slice nilSl]) f H))
 ((f38_j1 o K C a (.box [.slice nilSl]) (.bool false) H))
 (none)))
 (none))
def f39_l3 (o : Ops) (K : Nat) (C : CallC) : SV -> SV -> SV -> Heap -> (SV -> SV -> SV -> Heap -> Rs) -> Rs := fun c d b a e =>
 o.geq b (.int .i64 0) fun f =>
 (o.cond f
 (o.lfld 0 c fun g =>
 o.lloadp 1 false c g fun h =>
 o.idx 1 h b fun i =>
 o.load 1 false i a fun j =>
 o.lfld 0 d fun k =>
 o.lloadp 1 false d k fun l =>
 o.idx 1 l b fun m =>
 o.load 1 false m a fun n =>
 o.lss j n fun p =>
 (o.cond p
 (some ((.int .i64 (-1)), a))
 (o.lfld 0 c fun q =>
 o.lloadp 1 false c q fun r =>
 o.idx 1 r b fun s =>
 o.load 1 false s a fun t =>
 o.lfld 0 d fun u =>
 o.lloadp 1 false d u fun v =>
 o.idx 1 v b fun w =>
 o.load 1 false w a fun x =>
 o.gtr t x fun y =>
 (o.cond y
 (some ((.int .i64 1), a))
 (o.sub b (.int .i64 1) fun z =>
 e c d z a)))))
 (some ((.int .i64 0), a)))
def f39 (o : Ops) (K : Nat) (C : CallC) (c d : SV) (H : Heap) : Rs :=
 o.bbox c fun a =>
 o.bbox d fun b =>
 o.lfld 0 (.box a) fun e =>
 o.lloadp 1 false (.box a) e fun f =>
 o.len f fun g =>
 o.lfld 0 (.box b) fun h =>
 o.lloadp 1 false (.box b) h fun i =>
 o.len i fun j =>
 o.neq g j fun k =>
 (o.cond k
 (o.lfld 0 (.box a) fun l =>
 o.lloadp 1 false (.box a) l fun m =>
 o.len m fun n =>
 o.lfld 0 (.box b) fun p =>
 o.lloadp 1 false (.box b) p fun q =>
 o.len q fun r =>
 o.lss n r fun s =>
 (o.cond s
 (some ((.int .i64 (-1)), H))
 (some ((.int .i64 1), H))))
 (o.lfld 0 (.box a) fun t =>
 o.lloadp 1 false (.box a) t fun u =>
 o.len u fun v =>
 o.sub v (.int .i64 1) fun w =>
 (o.loop3 (f39_l3 o K C) K (.box a) (.box b) w H)))
def f40_l1 (o : Ops) (K : Nat) (C : CallC) : SV -> SV -> SV -> Heap -> (SV -> SV -> SV -> Heap -> Rs) -> Rs := fun b a d e f =>
 o.lfld 0 a fun g =>
 o.lloadp 1 false a g fun h =>
 o.len h fun i =>
 o.gtr i (.int .i64 0) fun j =>
 (o.cond j
 (o.lload 0 1 true b fun k =>
 o.lload 0 1 true a fun l =>
 o.call (C 48 [k, l] e) fun c m =>
 o.ext 0 c fun n =>
 o.ext 1 c fun p =>
 o.ext 2 c fun y =>
 o.bstore 0 1 (.box [.slice nilSl]) n fun z =>
 o.bstore 0 1 (.box [.slice nilSl]) p fun q =>
 o.lload 0 1 true a fun r =>
 o.lload 0 1 true (.box q) fun s =>
 o.bstore 0 1 b r fun t =>
 o.bstore 0 1 a s fun u =>
 f (.box t) (.box u) d m)
 (o.lload 0 1 true b fun v =>
 o.bstore 0 1 d v fun w =>
 o.resc 1 true (.box w) fun x =>
 some (x, e)))
def f40 (o : Ops) (K : Nat) (C : CallC) (a b : SV) (H : Heap) : Rs :=
 o.bbox a fun c =>
 o.bbox b fun d =>
 (o.loop3 (f40_l1 o K C) K (.box c) (.box d) (.box [.slice nilSl]) H)
def f41 (o : Ops) (K : Nat) (C : CallC) (H : Heap) : Rs :=
 o.call (C 33 [(.int .u64 1)] H) fun a b =>
 o.bstore 0 1 (.box [.slice nilSl]) a fun c =>
 o.resc 1 true (.box c) fun d =>
 some (d, b)
def f42_j1 (o : Ops) (K : Nat) (C : CallC) (a : SV) (b : Heap) : Rs :=
 o.resc 2 true a fun c =>
 some (c, b)
def f42 (o : Ops) (K : Nat) (C : CallC) (b c : SV) (H : Heap) : Rs :=
 o.bbox c fun a =>
 (o.guard b
 (o.lload 0 1 true (.box a) fun d =>
 o.call (C 29 [d] H) fun e f =>
 o.gtr e (.int .i64 0) fun g =>
 o.lload 0 1 true (.box a) fun h =>
 o.build [.bool false, .slice nilSl] [(0, 1), (1, 1)] [g, h] fun i =>
 o.bstore 0 2 (.box [.bool false, .slice nilSl]) i fun j =>
 (f42_j1 o K C (.box j) f))
 (o.lload 0 1 true (.box a) fun k =>
 o.build [.bool false, .slice nilSl] [(0, 1), (1, 1)] [(.bool false), k] fun l =>
 o.bstore 0 2 (.box [.bool false, .slice nilSl]) l fun m =>
 (f42_j1 o K C (.box m) H))
 (none))
def f43_j6 (o : Ops) (K : Nat) (C : CallC) (c : SV -> SV -> SV -> Heap -> Rs) (d a b : SV) (e : Heap) : Rs :=
 o.call (C 74 [d, a] e) fun f g =>
 o.callv C [b, f] g fun h i =>
 c h a b i
def f43_j10 (o : Ops) (K : Nat) (C : CallC) (a : SV) (b : Heap) : Rs :=
 o.rest a fun c =>
 some (c, b)
def f43_j9 (o : Ops) (K : Nat) (C : CallC) (b : SV) (a : Heap) : Rs :=
 o.len b fun c =>
 o.eql c (.int .i64 1) fun d =>
 (o.guard d
 (o.idx 1 b (.int .i64 0) fun e =>
 o.load 1 false e a fun f =>
 o.eql f (.int .u64 1) fun g =>
 (f43_j10 o K C g a))
 ((f43_j10 o K C (.bool false) a))
 (none))
def f43_j4 (o : Ops) (K : Nat) (C : CallC) (d : SV -> SV -> SV -> Heap -> Rs) (a b e g : SV) (c : Heap) : Rs :=
 (o.cond g
 (o.call (C 73 [a, b] c) fun h f =>
 (o.cond h
 ((f43_j6 o K C d b a e f))
 ((f43_j6 o K C d a b e f))))
 (o.len a fun i =>
 o.eql i (.int .i64 0) fun j =>
 (o.cond j
 ((f43_j9 o K C b c))
 ((f43_j9 o K C a c)))))
def f43_l3 (o : Ops) (K : Nat) (C : CallC) : SV -> SV -> SV -> Heap -> (SV -> SV -> SV -> Heap -> Rs) -> Rs := fun a b c d e =>
 o.len a fun f =>
 o.gtr f (.int .i64 0) fun g =>
 (o.guard g
 (o.len b fun h =>
 o.gtr h (.int .i64 0) fun i =>
 (f43_j4 o K C e a b c i d))
 ((f43_j4 o K C e a b c (.bool false) d))
 (none))
def f43_j1 (o : Ops) (K : Nat) (C : CallC) (b c d : SV) (a : Heap) : Rs :=
 (o.cond d
 (some ((.bool false), a))
 (o.callv C [(.fn 71 [] []), b] a fun e f =>
 o.callv C [(.fn 71 [] []), c] f fun g h =>
 (o.loop3 (f43_l3 o K C) K e g (.fn 71 [] []) h)))
def f43 (o : Ops) (K : Nat) (C : CallC) (d e : SV) (H : Heap) : Rs :=
 o.call (C 69 [d] H) fun a f =>
 o.call (C 69 [e] f) fun b g =>
 o.call (C 70 [a] g) fun h c =>
 o.u_not h fun i =>
 (o.guard i
 (o.call (C 70 [b] c) fun j k =>
 o.u_not j fun l =>
 (f43_j1 o K C a b l k))
 ((f43_j1 o K C a b (.bool false) c))
 (none))
def f44_j1 (o : Ops) (K : Nat) (C : CallC) (e a f g h i : SV) (b : Heap) : Rs :=
 (o.cond i
 (o.build [.bool false, .slice nilSl, .slice nilSl] [] [] fun j =>
 o.bstore 0 3 a j fun k =>
 o.resc 3 true (.box k) fun l =>
 some (.tuple [l, (.int .i64 3)], b))
 (o.lload 0 2 true f fun m =>
 o.lload 0 2 true g fun n =>
 o.callv C [e, m, n] b fun c d =>
 o.ext 0 c fun p =>
 o.ext 1 c fun q =>
 o.bstore 0 2 (.box [.bool false, .slice nilSl]) p fun r =>
 o.neq q (.int .i64 0) fun s =>
 (o.cond s
 (o.build [.bool false, .slice nilSl, .slice nilSl] [] [] fun t =>
 o.bstore 0 3 a t fun u =>
 o.resc 3 true (.box u) fun v =>
 some (.tuple [v, (.int .i64 3)], d))
 (o.lload 0 2 true (.box r) fun w =>
 o.lload 0 1 true h fun x =>
 o.call (C 26 [w, x] d) fun y z =>
 o.bstore 0 3 a y fun A =>
 o.resc 3 true (.box A) fun B =>
 some (.tuple [B, (.int .i64 0)], z)))))
def f44 (o : Ops) (K : Nat) (C : CallC) (k l c : SV) (H : Heap) : Rs :=
 o.bbox k fun a =>
 o.bbox l fun b =>
 o.lfld 0 (.box a) fun m =>
 o.lloadp 2 true (.box a) m fun n =>
 o.lload 0 3 true (.box b) fun p =>
 o.call (C 30 [p] H) fun q r =>
 o.callv C [(.fn 75 [] []), n, q] r fun h s =>
 o.ext 0 h fun t =>
 o.ext 1 h fun u =>
 o.bstore 0 2 (.box [.bool false, .slice nilSl]) t fun d =>
 o.lfld 0 (.box b) fun v =>
 o.lloadp 2 true (.box b) v fun w =>
 o.lload 0 3 true (.box a) fun x =>
 o.call (C 30 [x] s) fun y z =>
 o.callv C [(.fn 75 [] []), w, y] z fun i A =>
 o.ext 0 i fun B =>
 o.ext 1 i fun D =>
 o.bstore 0 2 (.box [.bool false, .slice nilSl]) B fun e =>
 o.lload 0 3 true (.box a) fun E =>
 o.call (C 30 [E] A) fun F G =>
 o.lload 0 3 true (.box b) fun I =>
 o.call (C 30 [I] G) fun J L =>
 o.call (C 77 [F, J] L) fun j f =>
 o.ext 0 j fun M =>
 o.ext 1 j fun N =>
 o.bstore 0 1 (.box [.slice nilSl]) M fun g =>
 o.neq u (.int .i64 0) fun P =>
 (o.guard P
 ((f44_j1 o K C c (.box [.bool false, .slice nilSl, .slice nilSl]) (.box d) (.box e) (.box g) (.bool true) f))
 (o.neq D (.int .i64 0) fun Q =>
 (o.guard Q
 ((f44_j1 o K C c (.box [.bool false, .slice nilSl, .slice nilSl]) (.box d) (.box e) (.box g) (.bool true) f))
 (o.neq N (.int .i64 0) fun S =>
 (f44_j1 o K C c (.box [.bool false, .slice nilSl, .slice nilSl]) (.box d) (.box e) (.box g) S f))
 (none)))
 (none))
def f45_j2 (o : Ops) (K : Nat) (C : CallC) (a b d : SV) (e : Heap) : Rs :=
 o.lfld 1 a fun f =>
 o.lloadp 1 true a f fun g =>
 o.lfld 1 b fun h =>
 o.lloadp 1 true b h fun i =>
 o.call (C 51 [g, i] e) fun c j =>
 o.ext 0 c fun k =>
 o.ext 1 c fun l =>
 o.bstore 0 1 (.box [.slice nilSl]) k fun m =>
 o.lfld 0 a fun n =>
 o.lloadp 1 false a n fun p =>
 o.lload 0 1 true (.box m) fun q =>
 o.call (C 42 [p, q] j) fun r s =>
 o.bstore 0 2 d r fun t =>
 o.resc 2 true (.box t) fun u =>
 o.rest l fun v =>
 some (.tuple [u, v], s)
def f45 (o : Ops) (K : Nat) (C : CallC) (e f : SV) (H : Heap) : Rs :=
 o.bbox e fun a =>
 o.bbox f fun b =>
 o.lfld 0 (.box a) fun g =>
 o.lloadp 1 false (.box a) g fun h =>
 o.lfld 0 (.box b) fun i =>
 o.lloadp 1 false (.box b) i fun j =>
 o.b_eql h j fun k =>
 (o.cond k
 (o.lfld 1 (.box a) fun l =>
 o.lloadp 1 true (.box a) l fun m =>
 o.lfld 1 (.box b) fun n =>
 o.lloadp 1 true (.box b) n fun p =>
 o.call (C 50 [m, p] H) fun c q =>
 o.ext 0 c fun r =>
 o.ext 1 c fun s =>
 o.bstore 0 1 (.box [.slice nilSl]) r fun t =>
 o.lfld 0 (.box a) fun u =>
 o.lloadp 1 false (.box a) u fun v =>
 o.lload 0 1 true (.box t) fun w =>
 o.call (C 42 [v, w] q) fun x y =>
 o.bstore 0 2 (.box [.bool false, .slice nilSl]) x fun z =>
 o.resc 2 true (.box z) fun A =>
 o.rest s fun B =>
 some (.tuple [A, B], y))
 (o.lfld 1 (.box a) fun D =>
 o.lloadp 1 true (.box a) D fun E =>
 o.lfld 1 (.box b) fun F =>
 o.lloadp 1 true (.box b) F fun G =>
 o.call (C 39 [E, G] H) fun I d =>
 o.lss I (.int .i64 0) fun J =>
 (o.cond J
 (o.lload 0 2 true (.box b) fun L =>
 o.lload 0 2 true (.box a) fun M =>
 o.bstore 0 2 (.box a) L fun N =>
 o.bstore 0 2 (.box b) M fun P =>
 (f45_j2 o K C (.box N) (.box P) (.box [.bool false, .slice nilSl]) d))
 ((f45_j2 o K C (.box a) (.box b) (.box [.bool false, .slice nilSl]) d)))))
def f46 (o : Ops) (K : Nat) (C : CallC) (b : SV) (H : Heap) : Rs :=
 o.bbox b fun a =>
 o.lfld 0 (.box a) fun c =>
 o.lloadp 2 true (.box a) c fun d =>
 o.call (C 24 [d] H) fun e f =>
 o.rest e fun g =>
 some (g, f)
def f47_j1 (o : Ops) (K : Nat) (C : CallC) (a c d e : SV) (b : Heap) : Rs :=
 (o.cond e
 (o.build [.bool false, .slice nilSl, .slice nilSl] [] [] fun f =>
 o.bstore 0 3 a f fun g =>
 o.resc 3 true (.box g) fun h =>
 some (.tuple [h, (.int .i64 3)], b))
 (o.lload 0 2 true c fun i =>
 o.lload 0 1 true d fun j =>
 o.call (C 26 [i, j] b) fun k l =>
 o.bstore 0 3 a k fun m =>
 o.resc 3 true (.box m) fun n =>
 some (.tuple [n, (.int .i64 0)], l)))
def f47 (o : Ops) (K : Nat) (C : CallC) (g h i : SV) (H : Heap) : Rs :=
 o.bbox g fun a =>
 o.bbox h fun j =>
 o.bbox i fun k =>
 o.lfld 0 (.box a) fun l =>
 o.lloadp 2 true (.box a) l fun m =>
 o.lload 0 2 true (.box j) fun n =>
 o.call (C 76 [m, n] H) fun b p =>
 o.ext 0 b fun q =>
 o.ext 1 b fun r =>
 o.bstore 0 2 (.box [.bool false, .slice nilSl]) q fun c =>
 o.lload 0 3 true (.box a) fun s =>
 o.call (C 30 [s] p) fun t u =>
 o.lload 0 1 true (.box k) fun v =>
 o.call (C 77 [t, v] u) fun d e =>
 o.ext 0 d fun w =>
 o.ext 1 d fun x =>
 o.bstore 0 1 (.box [.slice nilSl]) w fun f =>
 o.neq r (.int .i64 0) fun y =>
 (o.guard y
 ((f47_j1 o K C (.box [.bool false, .slice nilSl, .slice nilSl]) (.box c) (.box f) (.bool true) e))
 (o.neq x (.int .i64 0) fun z =>
 (f47_j1 o K C (.box [.bool false, .slice nilSl, .slice nilSl]) (.box c) (.box f) z e))
 (none))
def f48 (o : Ops) (K : Nat) (C : CallC) (i j : SV) (H : Heap) : Rs :=
 o.bbox i fun b =>
 o.bbox j fun a =>
 o.lfld 0 (.box a) fun k =>
 o.lloadp 1 false (.box a) k fun l =>
 o.len l fun m =>
 o.eql m (.int .i64 0) fun n =>
 (o.cond n
 (o.build [.slice nilSl] [] [] fun p =>
 o.build [.slice nilSl] [] [] fun q =>
 o.bstore 0 1 (.box [.slice nilSl]) p fun r =>
 o.bstore 0 1 (.box [.slice nilSl]) q fun s =>
 o.resc 1 true (.box r) fun t =>
 o.resc 1 true (.box s) fun u =>
 some (.tuple [t, u, (.int .i64 11)], H))
 (o.lload 0 1 true (.box b) fun v =>
 o.lload 0 1 true (.box a) fun w =>
 o.call (C 39 [v, w] H) fun x c =>
 o.lss x (.int .i64 0) fun y =>
 (o.cond y
 (o.build [.slice nilSl] [] [] fun z =>
 o.lload 0 1 true (.box b) fun A =>
 o.bstore 0 1 (.box [.slice nilSl]) z fun B =>
 o.bstore 0 1 (.box [.slice nilSl]) A fun D =>
 o.resc 1 true (.box B) fun E =>
 o.resc 1 true (.box D) fun F =>
 some (.tuple [E, F, (.int .i64 0)], c))
 (o.lfld 0 (.box a) fun G =>
 o.lloadp 1 false (.box a) G fun I =>
 o.len I fun J =>
 o.eql J (.int .i64 1) fun L =>
 (o.cond L
 (o.lfld 0 (.box b) fun M =>
 o.lloadp 1 false (.box b) M fun N =>
 o.append 1 4 (.slice nilSl) N c fun d e =>
 o.lfld 0 (.box a) fun P =>
 o.lloadp 1 false (.box a) P fun Q =>
 o.idx 1 Q (.int .i64 0) fun S =>
 o.load 1 false S e fun T =>
 o.call (C 61 [d, T] e) fun U V =>
 o.call (C 62 [d] V) fun W X =>
 o.conv .u64 U fun Y =>
 o.call (C 33 [Y] X) fun Z aa =>
 o.bstore 0 1 (.box [.slice nilSl]) W fun ab =>
 o.bstore 0 1 (.box [.slice nilSl]) Z fun ac =>
 o.resc 1 true (.box ab) fun ad =>
 o.resc 1 true (.box ac) fun ae =>
 some (.tuple [ad, ae, (.int .i64 0)], aa))
 (o.lload 0 1 true (.box b) fun af =>
 o.lload 0 1 true (.box a) fun ag =>
 o.call (C 78 [af, ag] c) fun f ah =>
 o.ext 0 f fun ai =>
 o.ext 1 f fun aj =>
 o.bstore 0 1 (.box [.slice nilSl]) ai fun g =>
 o.bstore 0 1 (.box [.slice nilSl]) aj fun h =>
 o.lload 0 1 true (.box g) fun ak =>
 o.lload 0 1 true (.box h) fun al =>
 o.bstore 0 1 (.box g) ak fun am =>
 o.bstore 0 1 (.box h) al fun an =>
 o.resc 1 true (.box am) fun ap =>
 o.resc 1 true (.box an) fun aq =>
 some (.tuple [ap, aq, (.int .i64 0)], ah)))))))
def f49_j2 (o : Ops) (K : Nat) (C : CallC) (a b : SV) (c : Heap) : Rs :=
 o.lload 0 1 true b fun d =>
 o.bstore 0 1 a d fun e =>
 o.resc 1 true (.box e) fun f =>
 some (f, c)
def f49_j1 (o : Ops) (K : Nat) (C : CallC) (e b a f : SV) (c : Heap) : Rs :=
 (o.cond f
 (o.lload 0 3 true e fun g =>
 o.call (C 30 [g] c) fun h i =>
 o.lload 0 1 true a fun j =>
 o.call (C 51 [h, j] i) fun d k =>
 o.ext 0 d fun l =>
 o.ext 1 d fun n =>
 o.bstore 0 1 a l fun m =>
 (f49_j2 o K C b (.box m) k))
 ((f49_j2 o K C b a c)))
def f49 (o : Ops) (K : Nat) (C : CallC) (e : SV) (H : Heap) : Rs :=
 o.bbox e fun a =>
 o.lfld 0 (.box a) fun f =>
 o.lloadp 2 true (.box a) f fun g =>
 o.call (C 27 [g] H) fun h i =>
 o.lload 0 3 true (.box a) fun j =>
 o.call (C 30 [j] i) fun k l =>
 o.call (C 48 [h, k] l) fun b m =>
 o.ext 0 b fun n =>
 o.ext 1 b fun p =>
 o.ext 2 b fun y =>
 o.bstore 0 1 (.box [.slice nilSl]) n fun z =>
 o.bstore 0 1 (.box [.slice nilSl]) p fun c =>
 o.lfld 0 (.box a) fun q =>
 o.lloadp 2 true (.box a) q fun r =>
 o.call (C 24 [r] m) fun s d =>
 o.lss s (.int .i64 0) fun t =>
 (o.guard t
 (o.lload 0 1 true (.box c) fun u =>
 o.call (C 29 [u] d) fun v w =>
 o.gtr v (.int .i64 0) fun x =>
 (f49_j1 o K C (.box a) (.box [.slice nilSl]) (.box c) x w))
 ((f49_j1 o K C (.box a) (.box [.slice nilSl]) (.box c) (.bool false) d))
 (none))
def f50_j4 (o : Ops) (K : Nat) (C : CallC) (c : SV -> SV -> SV -> SV -> SV -> SV -> Heap -> Rs) (d e a b f g h : SV) (i : Heap) : Rs :=
 o.conv .u32 b fun j =>
 o.idx 1 a f fun k =>
 o.store 1 k j i fun l =>
 o.shr b (.int .u64 32) fun m =>
 o.add h (.int .i64 1) fun n =>
 c d e a m g n l
def f50_l2 (o : Ops) (K : Nat) (C : CallC) : SV -> SV -> SV -> SV -> SV -> SV -> Heap -> (SV -> SV -> SV -> SV -> SV -> SV -> Heap -> Rs) -> Rs := fun b e d j f a c g =>
 o.lss a f fun k =>
 (o.cond k
 (o.idx 1 d a fun l =>
 o.load 1 false l c fun m =>
 o.conv .u64 m fun n =>
 o.add j n fun h =>
 o.lfld 0 b fun p =>
 o.lloadp 1 false b p fun q =>
 o.len q fun r =>
 o.lss a r fun s =>
 (o.cond s
 (o.lfld 0 b fun t =>
 o.lloadp 1 false b t fun u =>
 o.idx 1 u a fun v =>
 o.load 1 false v c fun w =>
 o.conv .u64 w fun x =>
 o.add h x fun y =>
 (f50_j4 o K C g b e d y a f a c))
 ((f50_j4 o K C g b e d h a f a c))))
 (o.call (C 62 [d] c) fun z A =>
 o.call (C 68 [z] A) fun i B =>
 o.ext 0 i fun D =>
 o.ext 1 i fun E =>
 o.bstore 0 1 e D fun F =>
 o.resc 1 true (.box F) fun G =>
 o.rest E fun I =>
 some (.tuple [G, I], B)))
def f50_j1 (o : Ops) (K : Nat) (C : CallC) (a d e : SV) (f : Heap) : Rs :=
 o.lfld 0 a fun g =>
 o.lloadp 1 false a g fun h =>
 o.len h fun i =>
 o.add i (.int .i64 1) fun c =>
 o.make 1 4 [.int .u32 0] c c f fun b j =>
 o.lfld 0 a fun k =>
 o.lloadp 1 false a k fun l =>
 o.copy 1 b l j fun p m =>
 o.len b fun n =>
 (o.loop6 (f50_l2 o K C) K d e b (.int .u64 0) n (.int .i64 0) m)
def f50 (o : Ops) (K : Nat) (C : CallC) (c d : SV) (H : Heap) : Rs :=
 o.bbox c fun a =>
 o.bbox d fun b =>
 o.lfld 0 (.box a) fun e =>
 o.lloadp 1 false (.box a) e fun f =>
 o.len f fun g =>
 o.lfld 0 (.box b) fun h =>
 o.lloadp 1 false (.box b) h fun i =>
 o.len i fun j =>
 o.lss g j fun k =>
 (o.cond k
 (o.lload 0 1 true (.box b) fun l =>
 o.lload 0 1 true (.box a) fun m =>
 o.bstore 0 1 (.box a) l fun n =>
 o.bstore 0 1 (.box b) m fun p =>
 (f50_j1 o K C (.box n) (.box p) (.box [.slice nilSl]) H))
 ((f50_j1 o K C (.box a) (.box b) (.box [.slice nilSl]) H)))
def f51 (o : Ops) (K : Nat) (C : CallC) (f g : SV) (H : Heap) : Rs :=
 o.bbox f fun a =>
 o.bbox g fun b =>
 o.lload 0 1 true (.box a) fun h =>
 o.lload 0 1 true (.box b) fun i =>
 o.call (C 39 [h, i] H) fun j d =>
 o.lss j (.int .i64 0) fun k =>
 (o.cond k
 (o.build [.slice nilSl] [] [] fun l =>
 o.bstore 0 1 (.box [.slice nilSl]) l fun m =>
 o.resc 1 true (.box m) fun n =>
 some (.tuple [n, (.int .i64 10)], d))
 (o.lfld 0 (.box a) fun p =>
 o.lloadp 1 false (.box a) p fun q =>
 o.len q fun e =>
 o.make 1 4 [.int .u32 0] e e d fun c r =>
 o.lfld 0 (.box a) fun s =>
 o.lloadp 1 false (.box a) s fun t =>
 o.copy 1 c t r fun D u =>
 o.lfld 0 (.box b) fun v =>
 o.lloadp 1 false (.box b) v fun w =>
 o.call (C 79 [c, w] u) fun E x =>
 o.call (C 62 [c] x) fun y z =>
 o.bstore 0 1 (.box [.slice nilSl]) y fun A =>
 o.resc 1 true (.box A) fun B =>
 some (.tuple [B, (.int .i64 0)], z)))
def f52_j1 (o : Ops) (K : Nat) (C : CallC) (a b d : SV) (c : Heap) : Rs :=
 (o.cond d
 (o.lfld 1 b fun e =>
 o.lloadp 1 true b e fun f =>
 o.lfld 1 a fun g =>
 o.lloadp 1 true a g fun h =>
 o.call (C 39 [f, h] c) fun i j =>
 o.rest i fun k =>
 some (k, j))
 (o.lfld 0 a fun l =>
 o.lloadp 1 false a l fun m =>
 (o.cond m
 (some ((.int .i64 (-1)), c))
 (o.lfld 0 b fun n =>
 o.lloadp 1 false b n fun p =>
 (o.cond p
 (some ((.int .i64 1), c))
 (o.lfld 1 a fun q =>
 o.lloadp 1 true a q fun r =>
 o.lfld 1 b fun s =>
 o.lloadp 1 true b s fun t =>
 o.call (C 39 [r, t] c) fun u v =>
 o.rest u fun w =>
 some (w, v)))))))
def f52 (o : Ops) (K : Nat) (C : CallC) (c d : SV) (H : Heap) : Rs :=
 o.bbox c fun a =>
 o.bbox d fun b =>
 o.lfld 0 (.box a) fun e =>
 o.lloadp 1 false (.box a) e fun f =>
 (o.guard f
 (o.lfld 0 (.box b) fun g =>
 o.lloadp 1 false (.box b) g fun h =>
 (f52_j1 o K C (.box a) (.box b) h H))
 ((f52_j1 o K C (.box a) (.box b) (.bool false) H))
 (none))
def f53 (o : Ops) (K : Nat) (C : CallC) (b c : SV) (H : Heap) : Rs :=
 o.bbox b fun d =>
 o.bbox c fun e =>
 o.lload 0 1 true (.box e) fun f =>
 o.call (C 41 [] H) fun g h =>
 o.call (C 51 [f, g] h) fun a i =>
 o.ext 0 a fun j =>
 o.ext 1 a fun t =>
 o.bstore 0 1 (.box [.slice nilSl]) j fun k =>
 o.lload 0 1 true (.box d) fun l =>
 o.call (C 42 [(.bool false), l] i) fun m n =>
 o.lload 0 1 true (.box k) fun p =>
 o.build [.bool false, .slice nilSl, .slice nilSl] [(0, 2), (2, 1)] [m, p] fun q =>
 o.bstore 0 3 (.box [.bool false, .slice nilSl, .slice nilSl]) q fun r =>
 o.resc 3 true (.box r) fun s =>
 some (s, n)
def f54_j5 (o : Ops) (K : Nat) (C : CallC) (b : SV -> SV -> SV -> SV -> SV -> Heap -> Rs) (c d e f a : SV) (g : Heap) : Rs :=
 o.rem a (.int .u32 65536) fun h =>
 o.hbuild 1 [.int .u32 0] [(0, 1)] [h] g fun i j =>
 o.append 1 4 e i j fun k l =>
 o.quo a (.int .u32 65536) fun m =>
 o.add f (.int .i64 1) fun n =>
 b c d k m n l
def f54_j4 (o : Ops) (K : Nat) (C : CallC) (d : SV -> SV -> SV -> SV -> SV -> Heap -> Rs) (e a f b g : SV) (c : Heap) : Rs :=
 o.len a fun h =>
 o.lss b h fun i =>
 (o.cond i
 (o.idx 1 a b fun j =>
 o.load 1 false j c fun k =>
 o.add g k fun l =>
 (f54_j5 o K C d e a f b l c))
 ((f54_j5 o K C d e a f b g c)))
def f54_j2 (o : Ops) (K : Nat) (C : CallC) (e : SV -> SV -> SV -> SV -> SV -> Heap -> Rs) (a f d g b h : SV) (c : Heap) : Rs :=
 (o.cond h
 (o.len a fun i =>
 o.lss b i fun j =>
 (o.cond j
 (o.idx 1 a b fun k =>
 o.load 1 false k c fun l =>
 o.add g l fun m =>
 (f54_j4 o K C e a f d b m c))
 ((f54_j4 o K C e a f d b g c))))
 (o.call (C 80 [d] c) fun n p =>
 o.rest n fun q =>
 some (q, p)))
def f54_l1 (o : Ops) (K : Nat) (C : CallC) : SV -> SV -> SV -> SV -> SV -> Heap -> (SV -> SV -> SV -> SV -> SV -> Heap -> Rs) -> Rs := fun b c e d a f g =>
 o.len b fun h =>
 o.lss a h fun i =>
 (o.guard i
 ((f54_j2 o K C g b c e d a (.bool true) f))
 (o.len c fun j =>
 o.lss a j fun k =>
 (o.guard k
 ((f54_j2 o K C g b c e d a (.bool true) f))
 (o.gtr d (.int .u32 0) fun l =>
 (f54_j2 o K C g b c e d a l f))
 (none)))
 (none))
def f54 (o : Ops) (K : Nat) (C : CallC) (a b : SV) (H : Heap) : Rs :=
 (o.loop5 (f54_l1 o K C) K a b (.slice nilSl) (.int .u32 0) (.int .i64 0) H)
def f55_j6 (o : Ops) (K : Nat) (C : CallC) (e : SV -> SV -> SV -> SV -> SV -> SV -> Heap -> Rs) (f g a b c d : SV) (h : Heap) : Rs :=
 o.add b c fun i =>
 o.rem d (.int .u64 65536) fun j =>
 o.conv .u32 j fun k =>
 o.idx 1 a i fun l =>
 o.store 1 l k h fun m =>
 o.quo d (.int .u64 65536) fun n =>
 o.add c (.int .i64 1) fun p =>
 e f g a b n p m
def f55_j4 (o : Ops) (K : Nat) (C : CallC) (i : SV -> SV -> SV -> SV -> Heap -> Rs) (g : SV -> SV -> SV -> SV -> SV -> SV -> Heap -> Rs) (e b f c j d k : SV) (a : Heap) : Rs :=
 (o.cond k
 (o.add c d fun l =>
 o.idx 1 f l fun m =>
 o.load 1 false m a fun n =>
 o.conv .u64 n fun p =>
 o.add p j fun h =>
 o.len b fun q =>
 o.lss d q fun r =>
 (o.cond r
 (o.idx 1 e c fun s =>
 o.load 1 false s a fun t =>
 o.conv .u64 t fun u =>
 o.idx 1 b d fun v =>
 o.load 1 false v a fun w =>
 o.conv .u64 w fun x =>
 o.mul u x fun y =>
 o.add h y fun z =>
 (f55_j6 o K C g e b f c d z a))
 ((f55_j6 o K C g e b f c d h a))))
 (o.add c (.int .i64 1) fun A =>
 i e b f A a))
def f55_l3 (o : Ops) (K : Nat) (C : CallC) (d : SV -> SV -> SV -> SV -> Heap -> Rs) : SV -> SV -> SV -> SV -> SV -> SV -> Heap -> (SV -> SV -> SV -> SV -> SV -> SV -> Heap -> Rs) -> Rs := fun e a f g b c h i =>
 o.len a fun j =>
 o.lss c j fun k =>
 (o.guard k
 ((f55_j4 o K C d i e a f g b c (.bool true) h))
 (o.gtr b (.int .u64 0) fun l =>
 (f55_j4 o K C d i e a f g b c l h))
 (none))
def f55_l1 (o : Ops) (K : Nat) (C : CallC) : SV -> SV -> SV -> SV -> Heap -> (SV -> SV -> SV -> SV -> Heap -> Rs) -> Rs := fun a e b c d f =>
 o.len a fun g =>
 o.lss c g fun h =>
 (o.cond h
 ((o.loop6 (f55_l3 o K C f) K a e b c (.int .u64 0) (.int .i64 0) d))
 (o.call (C 80 [b] d) fun i j =>
 o.rest i fun k =>
 some (k, j)))
def f55 (o : Ops) (K : Nat) (C : CallC) (a b : SV) (H : Heap) : Rs :=
 o.len a fun d =>
 o.len b fun e =>
 o.add d e fun c =>
 o.make 1 4 [.int .u32 0] c c H fun f g =>
 (o.loop4 (f55_l1 o K C) K a b f (.int .i64 0) g)
def f56_l1 (o : Ops) (K : Nat) (C : CallC) : SV -> SV -> Heap -> (SV -> SV -> Heap -> Rs) -> Rs := fun a b c d =>
 o.gtr a (.int .u64 0) fun e =>
 (o.cond e
 (o.rem a (.int .u64 65536) fun f =>
 o.conv .u32 f fun g =>
 o.hbuild 1 [.int .u32 0] [(0, 1)] [g] c fun h i =>
 o.append 1 4 b h i fun j k =>
 o.quo a (.int .u64 65536) fun l =>
 d l j k)
 (o.rest b fun m =>
 some (m, c)))
def f56 (o : Ops) (K : Nat) (C : CallC) (a : SV) (H : Heap) : Rs :=
 (o.loop2 (f56_l1 o K C) K a (.slice nilSl) H)
def f57 (o : Ops) (K : Nat) (C : CallC) (a : SV) (H : Heap) : Rs :=
 o.call (C 81 [a] H) fun b c =>
 o.gtr b (.int .i64 4096) fun d =>
 o.rest d fun e =>
 some (e, c)
def f58_l1 (o : Ops) (K : Nat) (C : CallC) : SV -> SV -> Heap -> (SV -> SV -> Heap -> Rs) -> Rs := fun b a c e =>
 o.len a fun f =>
 o.gtr f (.int .i64 0) fun g =>
 (o.cond g
 (o.call (C 59 [b, a] c) fun d h =>
 o.ext 0 d fun k =>
 o.ext 1 d fun i =>
 e a i h)
 (o.rest b fun j =>
 some (j, c)))
def f58 (o : Ops) (K : Nat) (C : CallC) (a b : SV) (H : Heap) : Rs :=
 (o.loop2 (f58_l1 o K C) K a b H)
def f59_j5 (o : Ops) (K : Nat) (C : CallC) (a : SV -> SV -> SV -> SV -> SV -> SV -> SV -> Heap -> Rs) (b c d e f g h : SV) (i : Heap) : Rs :=
 a b c d e f g h i
def f59_l3 (o : Ops) (K : Nat) (C : CallC) (l : SV -> SV -> SV -> SV -> SV -> Heap -> Rs) : SV -> SV -> SV -> SV -> SV -> SV -> SV -> Heap -> (SV -> SV -> SV -> SV -> SV -> SV -> SV -> Heap -> Rs) -> Rs := fun f a c d e b g i j =>
 o.sub g b fun m =>
 o.gtr m (.int .u64 1) fun n =>
 (o.cond n
 (o.add b g fun p =>
 o.quo p (.int .u64 2) fun h =>
 o.call (C 56 [h] i) fun q r =>
 o.call (C 55 [q, a] r) fun s t =>
 o.call (C 82 [s, d] t) fun u k =>
 o.leq u (.int .i64 0) fun v =>
 (o.cond v
 ((f59_j5 o K C j f a c d e h g k))
 ((f59_j5 o K C j f a c d e b h k))))
 (o.conv .u32 b fun w =>
 o.idx 1 c e fun x =>
 o.store 1 x w i fun y =>
 o.call (C 56 [b] y) fun z A =>
 o.call (C 55 [z, a] A) fun B D =>
 o.call (C 83 [d, B] D) fun E F =>
 o.sub e (.int .i64 1) fun G =>
 l f a c E G F))
def f59_l1 (o : Ops) (K : Nat) (C : CallC) : SV -> SV -> SV -> SV -> SV -> Heap -> (SV -> SV -> SV -> SV -> SV -> Heap -> Rs) -> Rs := fun c f d e a b g =>
 o.geq a (.int .i64 0) fun h =>
 (o.cond h
 (o.idx 1 c a fun i =>
 o.load 1 false i b fun j =>
 o.hbuild 1 [.int .u32 0] [(0, 1)] [j] b fun k l =>
 o.append 1 4 k e l fun m n =>
 o.call (C 80 [m] n) fun p q =>
 (o.loop7 (f59_l3 o K C g) K c f d p a (.int .u64 0) (.int .u64 65536) q))
 (o.call (C 80 [d] b) fun r s =>
 o.rest r fun t =>
 o.rest e fun u =>
 some (.tuple [t, u], s)))
def f59 (o : Ops) (K : Nat) (C : CallC) (a c : SV) (H : Heap) : Rs :=
 o.len a fun b =>
 o.make 1 4 [.int .u32 0] b b H fun d e =>
 o.len a fun f =>
 o.sub f (.int .i64 1) fun g =>
 (o.loop5 (f59_l1 o K C) K a c d (.slice nilSl) g e)
def f60_j2 (o : Ops) (K : Nat) (C : CallC) (a b : SV) (c : Heap) : Rs :=
 o.conv .u8 a fun d =>
 o.stridx (.str [0, 1, 2, 2, 3, 3, 3, 3, 4, 4, 4, 4, 4, 4, 4, 4, 5, 5, 5, 5, 5, 5, 5, 5, 5, 5, 5, 5, 5, 5, 5, 5, 6, 6, 6, 6, 6, 6, 6, 6, 6, 6, 6, 6, 6, 6, 6, 6, 6, 6, 6, 6, 6, 6, 6, 6, 6, 6, 6, 6, 6, 6, 6, 6, 7, 7, 7, 7, 7, 7, 7, 7, 7, 7, 7, 7, 7, 7, 7, 7, 7, 7, 7, 7, 7, 7, 7, 7, 7, 7, 7, 7, 7, 7, 7, 7, 7, 7, 7, 7, 7, 7, 7, 7, 7, 7, 7, 7, 7, 7, 7, 7, 7, 7, 7, 7, 7, 7, 7, 7, 7, 7, 7, 7, 7, 7, 7, 7, 8, 8, 8, 8, 8, 8, 8, 8, 8, 8, 8, 8, 8, 8, 8, 8, 8, 8, 8, 8, 8, 8, 8, 8, 8, 8, 8, 8, 8, 8, 8, 8, 8, 8, 8, 8, 8, 8, 8, 8, 8, 8, 8, 8, 8, 8, 8, 8, 8, 8, 8, 8, 8, 8, 8, 8, 8, 8, 8, 8, 8, 8, 8, 8, 8, 8, 8, 8, 8, 8, 8, 8, 8, 8, 8, 8, 8, 8, 8, 8, 8, 8, 8, 8, 8, 8, 8, 8, 8, 8, 8, 8, 8, 8, 8, 8, 8, 8, 8, 8, 8, 8, 8, 8, 8, 8, 8, 8, 8, 8, 8, 8, 8, 8, 8, 8, 8, 8, 8, 8, 8, 8, 8, 8, 8, 8, 8, 8]) d fun e =>
 o.conv .i64 e fun f =>
 o.add b f fun g =>
 o.rest g fun h =>
 some (h, c)
def f60_j1 (o : Ops) (K : Nat) (C : CallC) (a b : SV) (c : Heap) : Rs :=
 o.geq a (.int .u32 256) fun d =>
 (o.cond d
 (o.shr a (.int .u64 8) fun e =>
 o.add b (.int .i64 8) fun f =>
 (f60_j2 o K C e f c))
 ((f60_j2 o K C a b c)))
def f60 (o : Ops) (K : Nat) (C : CallC) (a : SV) (H : Heap) : Rs :=
 o.geq a (.int .u32 65536) fun b =>
 (o.cond b
 (o.shr a (.int .u64 16) fun c =>
 (f60_j1 o K C c (.int .i64 16) H))
 ((f60_j1 o K C a (.int .i64 0) H)))
def f61_l1 (o : Ops) (K : Nat) (C : CallC) : SV -> SV -> SV -> SV -> Heap -> (SV -> SV -> SV -> SV -> Heap -> Rs) -> Rs := fun b c e a d g =>
 o.geq a (.int .i64 0) fun h =>
 (o.cond h
 (o.shl e (.int .u64 32) fun i =>
 o.idx 1 b a fun j =>
 o.load 1 false j d fun k =>
 o.conv .u64 k fun l =>
 o.or i l fun f =>
 o.conv .u64 c fun m =>
 o.quo f m fun n =>
 o.conv .u32 n fun p =>
 o.conv .u64 c fun q =>
 o.rem f q fun r =>
 o.idx 1 b a fun s =>
 o.store 1 s p d fun t =>
 o.sub a (.int .i64 1) fun u =>
 g b c r u t)
 (o.conv .u32 e fun v =>
 o.rest v fun w =>
 some (w, d)))
def f61 (o : Ops) (K : Nat) (C : CallC) (a b : SV) (H : Heap) : Rs :=
 o.len a fun c =>
 o.sub c (.int .i64 1) fun d =>
 (o.loop4 (f61_l1 o K C) K a b (.int .u64 0) d H)
def f62_j2 (o : Ops) (K : Nat) (C : CallC) (e : SV -> SV -> SV -> Heap -> Rs) (c d a f : SV) (b : Heap) : Rs :=
 (o.cond f
 (o.sub a (.int .i64 1) fun g =>
 e c d g b)
 (o.slice011 1 c a a b fun h =>
 o.build [.slice nilSl] [(0, 1)] [h] fun i =>
 o.bstore 0 1 d i fun j =>
 o.resc 1 true (.box j) fun k =>
 some (k, b)))
def f62_l1 (o : Ops) (K : Nat) (C : CallC) : SV -> SV -> SV -> Heap -> (SV -> SV -> SV -> Heap -> Rs) -> Rs := fun b d a c e =>
 o.gtr a (.int .i64 0) fun f =>
 (o.guard f
 (o.sub a (.int .i64 1) fun g =>
 o.idx 1 b g fun h =>
 o.load 1 false h c fun i =>
 o.eql i (.int .u32 0) fun j =>
 (f62_j2 o K C e b d a j c))
 ((f62_j2 o K C e b d a (.bool false) c))
 (none))
def f62 (o : Ops) (K : Nat) (C : CallC) (a : SV) (H : Heap) : Rs :=
 o.len a fun b =>
 (o.loop3 (f62_l1 o K C) K a (.box [.slice nilSl]) b H)
def f63_l2 (o : Ops) (K : Nat) (C : CallC) : SV -> SV -> SV -> Heap -> (SV -> SV -> SV -> Heap -> Rs) -> Rs := fun c d a b e =>
 o.geq a (.int .i64 0) fun f =>
 (o.cond f
 (o.mul d (.int .u64 65536) fun g =>
 o.idx 1 c a fun h =>
 o.load 1 false h b fun i =>
 o.conv .u64 i fun j =>
 o.add g j fun k =>
 o.sub a (.int .i64 1) fun l =>
 e c k l b)
 (o.rest d fun m =>
 some (.tuple [m, (.bool true)], b)))
def f63 (o : Ops) (K : Nat) (C : CallC) (a : SV) (H : Heap) : Rs :=
 o.len a fun b =>
 o.gtr b (.int .i64 4) fun c =>
 (o.cond c
 (some (.tuple [(.int .u64 0), (.bool false)], H))
 (o.len a fun d =>
 o.sub d (.int .i64 1) fun e =>
 (o.loop3 (f63_l2 o K C) K a (.int .u64 0) e H)))
def f64 (o : Ops) (K : Nat) (C : CallC) (a c : SV) (H : Heap) : Rs :=
 o.call (C 84 [a, c] H) fun b d =>
 o.geq b (.int .i64 0) fun e =>
 (o.cond e
 (o.strcut01 a b fun f =>
 o.slen c fun g =>
 o.add b g fun h =>
 o.strcut10 a h fun i =>
 o.rest f fun j =>
 o.rest i fun k =>
 some (.tuple [j, k, (.bool true)], d))
 (o.rest a fun l =>
 some (.tuple [l, (.str []), (.bool false)], d)))
def f65_j1 (o : Ops) (K : Nat) (C : CallC) (a : SV) (b : Heap) : Rs :=
 o.rest a fun c =>
 some (c, b)
def f65 (o : Ops) (K : Nat) (C : CallC) (b a : SV) (H : Heap) : Rs :=
 o.slen b fun c =>
 o.slen a fun d =>
 o.geq c d fun e =>
 (o.guard e
 (o.slen a fun f =>
 o.strcut01 b f fun g =>
 o.eql g a fun h =>
 (f65_j1 o K C h H))
 ((f65_j1 o K C (.bool false) H))
 (none))
def f66 (o : Ops) (K : Nat) (C : CallC) (a b : SV) (H : Heap) : Rs :=
 o.call (C 65 [a, b] H) fun d c =>
 (o.cond d
 (o.slen b fun e =>
 o.strcut10 a e fun f =>
 o.rest f fun g =>
 some (g, c))
 (o.rest a fun h =>
 some (h, c)))
def f67_j3 (o : Ops) (K : Nat) (C : CallC) (b a g : SV) (d : Heap) : Rs :=
 (o.cond g
 (o.stridx a (.int .i64 0) fun h =>
 o.call (C 86 [b, h] d) fun i j =>
 o.stridx a (.int .i64 0) fun k =>
 o.call (C 85 [i, k] j) fun l m =>
 o.rest l fun n =>
 some (n, m))
 (o.call (C 87 [a] d) fun e p =>
 o.ext 0 e fun q =>
 o.ext 1 e fun r =>
 o.alloc [.bool false, .bool false, .bool false, .bool false, .bool false, .bool false, .bool false, .bool false, .bool false, .bool false, .bool false, .bool false, .bool false, .bool false, .bool false, .bool false, .bool false, .bool false, .bool false, .bool false, .bool false, .bool false, .bool false, .bool false, .bool false, .bool false, .bool false, .bool false, .bool false, .bool false, .bool false, .bool false, .bool false, .bool false, .bool false, .bool false, .bool false, .bool false, .bool false, .bool false, .bool false, .bool false, .bool false, .bool false, .bool false, .bool false, .bool false, .bool false, .bool false, .bool false, .bool false, .bool false, .bool false, .bool false, .bool false, .bool false, .bool false, .bool false, .bool false, .bool false, .bool false, .bool false, .bool false, .bool false, .bool false, .bool false, .bool false, .bool false, .bool false, .bool false, .bool false, .bool false, .bool false, .bool false, .bool false, .bool false, .bool false, .bool false, .bool false, .bool false, .bool false, .bool false, .bool false, .bool false, .bool false, .bool false, .bool false, .bool false, .bool false, .bool false, .bool false, .bool false, .bool false, .bool false, .bool false, .bool false, .bool false, .bool false, .bool false, .bool false, .bool false, .bool false, .bool false, .bool false, .bool false, .bool false, .bool false, .bool false, .bool false, .bool false, .bool false, .bool false, .bool false, .bool false, .bool false, .bool false, .bool false, .bool false, .bool false, .bool false, .bool false, .bool false, .bool false, .bool false, .bool false, .bool false, .bool false, .bool false, .bool false, .bool false, .bool false, .bool false, .bool false, .bool false, .bool false, .bool false, .bool false, .bool false, .bool false, .bool false, .bool false, .bool false, .bool false, .bool false, .bool false, .bool false, .bool false, .bool false, .bool false, .bool false, .bool false, .bool false, .bool false, .bool false, .bool false, .bool false, .bool false, .bool false, .bool false, .bool false, .bool false, .bool false, .bool false, .bool false, .bool false, .bool false, .bool false, .bool false, .bool false, .bool false, .bool false, .bool false, .bool false, .bool false, .bool false, .bool false, .bool false, .bool false, .bool false, .bool false, .bool false, .bool false, .bool false, .bool false, .bool false, .bool false, .bool false, .bool false, .bool false, .bool false, .bool false, .bool false, .bool false, .bool false, .bool false, .bool false, .bool false, .bool false, .bool false, .bool false, .bool false, .bool false, .bool false, .bool false, .bool false, .bool false, .bool false, .bool false, .bool false, .bool false, .bool false, .bool false, .bool false, .bool false, .bool false, .bool false, .bool false, .bool false, .bool false, .bool false, .bool false, .bool false, .bool false, .bool false, .bool false, .bool false, .bool false, .bool false, .bool false, .bool false, .bool false, .bool false, .bool false, .bool false, .bool false, .bool false, .bool false, .bool false, .bool false, .bool false, .bool false, .bool false, .bool false, .bool false, .bool false, .bool false, .bool false, .bool false, .bool false, .bool false, .bool false, .bool false, .bool false, .bool false, .bool false, .bool false] p fun c s =>
 o.store 256 c q s fun f =>
 (o.cond r
 (o.call (C 89 [b, c] f) fun t u =>
 o.call (C 88 [t, c] u) fun v w =>
 o.rest v fun x =>
 some (x, w))
 (o.call (C 91 [b, a] f) fun y z =>
 o.call (C 90 [y, a] z) fun A B =>
 o.rest A fun D =>
 some (D, B)))))
def f67_j1 (o : Ops) (K : Nat) (C : CallC) (b a d : SV) (c : Heap) : Rs :=
 (o.cond d
 (o.rest b fun e =>
 some (e, c))
 (o.slen a fun f =>
 o.eql f (.int .i64 1) fun g =>
 (o.guard g
 (o.stridx a (.int .i64 0) fun h =>
 o.lss h (.int .u8 128) fun i =>
 (f67_j3 o K C b a i c))
 ((f67_j3 o K C b a (.bool false) c))
 (none))))
def f67 (o : Ops) (K : Nat) (C : CallC) (a b : SV) (H : Heap) : Rs :=
 o.eql a (.str []) fun c =>
 (o.guard c
 ((f67_j1 o K C a b (.bool true) H))
 (o.eql b (.str []) fun d =>
 (f67_j1 o K C a b d H))
 (none))
def f68 (o : Ops) (K : Nat) (C : CallC) (c : SV) (H : Heap) : Rs :=
 o.bbox c fun a =>
 o.lload 0 1 true (.box a) fun d =>
 o.call (C 29 [d] H) fun e b =>
 o.gtr e (.int .i64 4096) fun f =>
 (o.cond f
 (o.build [.slice nilSl] [] [] fun g =>
 o.bstore 0 1 (.box [.slice nilSl]) g fun h =>
 o.resc 1 true (.box h) fun i =>
 some (.tuple [i, (.int .i64 3)], b))
 (o.lload 0 1 true (.box a) fun j =>
 o.bstore 0 1 (.box [.slice nilSl]) j fun k =>
 o.resc 1 true (.box k) fun l =>
 some (.tuple [l, (.int .i64 0)], b)))
def f69_l3 (o : Ops) (K : Nat) (C : CallC) (g : SV -> SV -> Heap -> Rs) : SV -> SV -> SV -> SV -> Heap -> (SV -> SV -> SV -> SV -> Heap -> Rs) -> Rs := fun a b c d e h =>
 o.max [] fun f =>
 o.ext 0 f fun i =>
 (o.cond i
 (o.ext 2 f fun j =>
 o.mul (.int .u64 10) d fun k =>
 o.sub j (.int .i32 48) fun l =>
 o.conv .u64 l fun m =>
 o.add k m fun n =>
 h a b c n e)
 (o.hbuild 1 [.int .u64 0] [(0, 1)] [d] e fun p q =>
 o.append 1 8 b p q fun r s =>
 o.strcut10 a c fun t =>
 g t r s))
def f69_l1 (o : Ops) (K : Nat) (C : CallC) : SV -> SV -> Heap -> (SV -> SV -> Heap -> Rs) -> Rs := fun a b c e =>
 o.slen a fun f =>
 o.gtr f (.int .i64 0) fun g =>
 (o.cond g
 (o.slen a fun h =>
 o.sub h (.int .i64 1) fun i =>
 o.rem i (.int .i64 9) fun j =>
 o.add j (.int .i64 1) fun d =>
 o.strcut01 a d fun n =>
 o.max [] fun p =>
 (o.loop4 (f69_l3 o K C e) K a b d (.int .u64 0) c))
 (o.call (C 92 [b] c) fun k l =>
 o.rest k fun m =>
 some (m, l)))
def f69 (o : Ops) (K : Nat) (C : CallC) (a : SV) (H : Heap) : Rs :=
 (o.loop2 (f69_l1 o K C) K a (.slice nilSl) H)
def f70_j1 (o : Ops) (K : Nat) (C : CallC) (a : SV) (b : Heap) : Rs :=
 o.rest a fun c =>
 some (c, b)
def f70 (o : Ops) (K : Nat) (C : CallC) (a : SV) (H : Heap) : Rs :=
 o.len a fun b =>
 o.gtr b (.int .i64 0) fun c =>
 (o.guard c
 (o.len a fun d =>
 o.sub d (.int .i64 1) fun e =>
 o.idx 1 a e fun f =>
 o.load 1 false f H fun g =>
 o.rem g (.int .u64 2) fun h =>
 o.eql h (.int .u64 1) fun i =>
 (f70_j1 o K C i H))
 ((f70_j1 o K C (.bool false) H))
 (none))
def f71_j2 (o : Ops) (K : Nat) (C : CallC) (c : SV -> Heap -> Rs) (a d : SV) (b : Heap) : Rs :=
 (o.cond d
 (o.call (C 72 [a] b) fun e f =>
 c e f)
 (o.rest a fun g =>
 some (g, b)))
def f71_l1 (o : Ops) (K : Nat) (C : CallC) : SV -> Heap -> (SV -> Heap -> Rs) -> Rs := fun a b c =>
 o.len a fun d =>
 o.gtr d (.int .i64 0) fun e =>
 (o.guard e
 (o.call (C 70 [a] b) fun f g =>
 o.u_not f fun h =>
 (f71_j2 o K C c a h g))
 ((f71_j2 o K C c a (.bool false) b))
 (none))
def f71 (o : Ops) (K : Nat) (C : CallC) (a : SV) (H : Heap) : Rs :=
 (o.loop1 (f71_l1 o K C) K a H)
def f72_l1 (o : Ops) (K : Nat) (C : CallC) : SV -> SV -> SV -> SV -> Heap -> (SV -> SV -> SV -> SV -> Heap -> Rs) -> Rs := fun a f d b c g =>
 o.lss b d fun h =>
 (o.cond h
 (o.mul f (.int .u64 1000000000) fun i =>
 o.idx 1 a b fun j =>
 o.load 1 false j c fun k =>
 o.add i k fun e =>
 o.quo e (.int .u64 2) fun l =>
 o.rem e (.int .u64 2) fun m =>
 o.idx 1 a b fun n =>
 o.store 1 n l c fun p =>
 o.add b (.int .i64 1) fun q =>
 g a m d q p)
 (o.call (C 92 [a] c) fun r s =>
 o.rest r fun t =>
 some (t, s)))
def f72 (o : Ops) (K : Nat) (C : CallC) (b : SV) (H : Heap) : Rs :=
 o.append 1 8 (.slice nilSl) b H fun a c =>
 o.len a fun d =>
 (o.loop4 (f72_l1 o K C) K a (.int .u64 0) d (.int .i64 0) c)
def f73_l2 (o : Ops) (K : Nat) (C : CallC) : SV -> SV -> SV -> SV -> Heap -> (SV -> SV -> SV -> SV -> Heap -> Rs) -> Rs := fun c d e b a f =>
 o.lss b e fun g =>
 (o.cond g
 (o.idx 1 c b fun h =>
 o.load 1 false h a fun i =>
 o.idx 1 d b fun j =>
 o.load 1 false j a fun k =>
 o.neq i k fun l =>
 (o.cond l
 (o.idx 1 c b fun m =>
 o.load 1 false m a fun n =>
 o.idx 1 d b fun p =>
 o.load 1 false p a fun q =>
 o.lss n q fun r =>
 o.rest r fun s =>
 some (s, a))
 (o.add b (.int .i64 1) fun t =>
 f c d e t a)))
 (some ((.bool false), a)))
def f73 (o : Ops) (K : Nat) (C : CallC) (a b : SV) (H : Heap) : Rs :=
 o.len a fun c =>
 o.len b fun d =>
 o.neq c d fun e =>
 (o.cond e
 (o.len a fun f =>
 o.len b fun g =>
 o.lss f g fun h =>
 o.rest h fun i =>
 some (i, H))
 (o.len a fun j =>
 (o.loop4 (f73_l2 o K C) K a b j (.int .i64 0) H)))
def f74_j4 (o : Ops) (K : Nat) (C : CallC) (e : SV -> SV -> SV -> SV -> Heap -> Rs) (f a g b h : SV) (c : Heap) : Rs :=
 o.len a fun i =>
 o.sub i b fun d =>
 o.idx 1 a d fun j =>
 o.load 1 false j c fun k =>
 o.sub k h fun l =>
 o.idx 1 a d fun m =>
 o.store 1 m l c fun n =>
 o.add b (.int .i64 1) fun p =>
 e f a g p n
def f74_j3 (o : Ops) (K : Nat) (C : CallC) (e : SV -> SV -> SV -> SV -> Heap -> Rs) (f a b d : SV) (c : Heap) : Rs :=
 o.len a fun h =>
 o.sub h b fun i =>
 o.idx 1 a i fun j =>
 o.load 1 false j c fun k =>
 o.lss k d fun l =>
 (o.cond l
 (o.len a fun m =>
 o.sub m b fun g =>
 o.idx 1 a g fun n =>
 o.load 1 false n c fun p =>
 o.add p (.int .u64 1000000000) fun q =>
 o.idx 1 a g fun r =>
 o.store 1 r q c fun s =>
 (f74_j4 o K C e f a (.int .u64 1) b d s))
 ((f74_j4 o K C e f a (.int .u64 0) b d c)))
def f74_l1 (o : Ops) (K : Nat) (C : CallC) : SV -> SV -> SV -> SV -> Heap -> (SV -> SV -> SV -> SV -> Heap -> Rs) -> Rs := fun a c e b d f =>
 o.len c fun g =>
 o.leq b g fun h =>
 (o.cond h
 (o.len a fun i =>
 o.leq b i fun j =>
 (o.cond j
 (o.len a fun k =>
 o.sub k b fun l =>
 o.idx 1 a l fun m =>
 o.load 1 false m d fun n =>
 o.add e n fun p =>
 (f74_j3 o K C f a c b p d))
 ((f74_j3 o K C f a c b e d))))
 (o.call (C 92 [c] d) fun q r =>
 o.rest q fun s =>
 some (s, r)))
def f74 (o : Ops) (K : Nat) (C : CallC) (a b : SV) (H : Heap) : Rs :=
 o.append 1 8 (.slice nilSl) a H fun c d =>
 (o.loop4 (f74_l1 o K C) K b c (.int .u64 0) (.int .i64 1) d)
def f75 (o : Ops) (K : Nat) (C : CallC) (b c : SV) (H : Heap) : Rs :=
 o.bbox b fun d =>
 o.bbox c fun e =>
 o.lload 0 2 true (.box d) fun f =>
 o.lload 0 1 true (.box e) fun g =>
 o.call (C 42 [(.bool false), g] H) fun h i =>
 o.call (C 76 [f, h] i) fun a j =>
 o.ext 0 a fun k =>
 o.ext 1 a fun l =>
 o.bstore 0 2 (.box [.bool false, .slice nilSl]) k fun m =>
 o.resc 2 true (.box m) fun n =>
 o.rest l fun p =>
 some (.tuple [n, p], j)
def f76 (o : Ops) (K : Nat) (C : CallC) (d e : SV) (H : Heap) : Rs :=
 o.bbox d fun a =>
 o.bbox e fun b =>
 o.lfld 1 (.box a) fun f =>
 o.lloadp 1 true (.box a) f fun g =>
 o.lfld 1 (.box b) fun h =>
 o.lloadp 1 true (.box b) h fun i =>
 o.call (C 77 [g, i] H) fun c j =>
 o.ext 0 c fun k =>
 o.ext 1 c fun l =>
 o.bstore 0 1 (.box [.slice nilSl]) k fun m =>
 o.lfld 0 (.box a) fun n =>
 o.lloadp 1 false (.box a) n fun p =>
 o.lfld 0 (.box b) fun q =>
 o.lloadp 1 false (.box b) q fun r =>
 o.b_neq p r fun s =>
 o.lload 0 1 true (.box m) fun t =>
 o.call (C 42 [s, t] j) fun u v =>
 o.bstore 0 2 (.box [.bool false, .slice nilSl]) u fun w =>
 o.resc 2 true (.box w) fun x =>
 o.rest l fun y =>
 some (.tuple [x, y], v)
def f77 (o : Ops) (K : Nat) (C : CallC) (e f : SV) (H : Heap) : Rs :=
 o.bbox e fun a =>
 o.bbox f fun b =>
 o.lload 0 1 true (.box a) fun g =>
 o.call (C 29 [g] H) fun h i =>
 o.lload 0 1 true (.box b) fun j =>
 o.call (C 29 [j] i) fun k c =>
 o.add h k fun l =>
 o.gtr l (.int .i64 4097) fun m =>
 (o.cond m
 (o.build [.slice nilSl] [] [] fun n =>
 o.bstore 0 1 (.box [.slice nilSl]) n fun p =>
 o.resc 1 true (.box p) fun q =>
 some (.tuple [q, (.int .i64 3)], c))
 (o.lload 0 1 true (.box a) fun r =>
 o.lload 0 1 true (.box b) fun s =>
 o.call (C 93 [r, s] c) fun t u =>
 o.call (C 68 [t] u) fun d v =>
 o.ext 0 d fun w =>
 o.ext 1 d fun x =>
 o.bstore 0 1 (.box [.slice nilSl]) w fun y =>
 o.resc 1 true (.box y) fun z =>
 o.rest x fun A =>
 some (.tuple [z, A], v)))
def f78_j7 (o : Ops) (K : Nat) (C : CallC) (a : SV -> SV -> SV -> SV -> SV -> SV -> SV -> SV -> Heap -> Rs) (b c d e f g h i : SV) (j : Heap) : Rs :=
 o.sub i (.int .i64 1) fun k =>
 a b c d e f g h k j
def f78_j11 (o : Ops) (K : Nat) (C : CallC) (c : SV -> SV -> SV -> SV -> SV -> SV -> SV -> SV -> SV -> SV -> SV -> SV -> Heap -> Rs) (d e f g h i j k a b l m n : SV) (p : Heap) : Rs :=
 o.conv .u32 b fun q =>
 o.idx 1 a l fun r =>
 o.store 1 r q p fun s =>
 o.shr b (.int .u64 32) fun t =>
 o.add n (.int .i64 1) fun u =>
 c d e f g h i j k a t m u s
def f78_l9 (o : Ops) (K : Nat) (C : CallC) (p : SV -> SV -> SV -> SV -> SV -> SV -> SV -> SV -> Heap -> Rs) : SV -> SV -> SV -> SV -> SV -> SV -> SV -> SV -> SV -> SV -> SV -> SV -> Heap -> (SV -> SV -> SV -> SV -> SV -> SV -> SV -> SV -> SV -> SV -> SV -> SV -> Heap -> Rs) -> Rs := fun e f c g d h i j k q l a b m =>
 o.lss a l fun r =>
 (o.cond r
 (o.idx 1 k a fun s =>
 o.load 1 false s b fun t =>
 o.conv .u64 t fun u =>
 o.add q u fun n =>
 o.lss a c fun v =>
 (o.cond v
 (o.idx 1 d a fun w =>
 o.load 1 false w b fun x =>
 o.conv .u64 x fun y =>
 o.add n y fun z =>
 (f78_j11 o K C m e f c g d h i j k z a l a b))
 ((f78_j11 o K C m e f c g d h i j k n a l a b))))
 ((f78_j7 o K C p e f c g d h i j b)))
def f78_j6 (o : Ops) (K : Nat) (C : CallC) (h : SV -> SV -> SV -> SV -> SV -> SV -> SV -> SV -> Heap -> Rs) (i j b k d e c a f : SV) (l : Heap) : Rs :=
 o.add a b fun n =>
 o.add n (.int .i64 1) fun p =>
 o.add a b fun q =>
 o.add q (.int .i64 1) fun r =>
 o.slice111 1 e a p r l fun g =>
 o.conv .u32 f fun s =>
 o.call (C 96 [g, d, s] l) fun t m =>
 o.u_not t fun u =>
 (o.cond u
 (o.conv .u32 f fun v =>
 o.idx 1 c a fun w =>
 o.store 1 w v m fun x =>
 (f78_j7 o K C h i j b k d e c a x))
 (o.conv .u32 f fun y =>
 o.sub y (.int .u32 1) fun z =>
 o.idx 1 c a fun A =>
 o.store 1 A z m fun B =>
 o.len g fun D =>
 (o.loop12 (f78_l9 o K C h) K i j b k d e c a g (.int .u64 0) D (.int .i64 0) B)))
def f78_j4 (o : Ops) (K : Nat) (C : CallC) (j : SV -> SV -> SV -> SV -> SV -> SV -> SV -> SV -> Heap -> Rs) (n : SV -> SV -> SV -> SV -> SV -> SV -> SV -> SV -> SV -> SV -> Heap -> Rs) (d e a f b g h i k p q : SV) (c : Heap) : Rs :=
 (o.cond q
 (o.sub k (.int .u64 1) fun l =>
 o.sub a (.int .i64 1) fun r =>
 o.idx 1 b r fun s =>
 o.load 1 false s c fun t =>
 o.conv .u64 t fun u =>
 o.add p u fun m =>
 o.shr m (.int .u64 32) fun v =>
 o.neq v (.int .u64 0) fun w =>
 (o.cond w
 ((f78_j6 o K C j d e a f b g h i l c))
 (n d e a f b g h i l m c)))
 ((f78_j6 o K C j d e a f b g h i k c)))
def f78_l3 (o : Ops) (K : Nat) (C : CallC) (h : SV -> SV -> SV -> SV -> SV -> SV -> SV -> SV -> Heap -> Rs) : SV -> SV -> SV -> SV -> SV -> SV -> SV -> SV -> SV -> SV -> Heap -> (SV -> SV -> SV -> SV -> SV -> SV -> SV -> SV -> SV -> SV -> Heap -> Rs) -> Rs := fun i j a k d e l f b g c m =>
 o.shr b (.int .u64 32) fun n =>
 o.neq n (.int .u64 0) fun p =>
 (o.guard p
 ((f78_j4 o K C h m i j a k d e l f b g (.bool true) c))
 (o.sub a (.int .i64 2) fun q =>
 o.idx 1 d q fun r =>
 o.load 1 false r c fun s =>
 o.conv .u64 s fun t =>
 o.mul b t fun u =>
 o.shl g (.int .u64 32) fun v =>
 o.add f a fun w =>
 o.sub w (.int .i64 2) fun x =>
 o.idx 1 e x fun y =>
 o.load 1 false y c fun z =>
 o.conv .u64 z fun A =>
 o.or v A fun B =>
 o.gtr u B fun D =>
 (f78_j4 o K C h m i j a k d e l f b g D c))
 (none))
def f78_l1 (o : Ops) (K : Nat) (C : CallC) : SV -> SV -> SV -> SV -> SV -> SV -> SV -> SV -> Heap -> (SV -> SV -> SV -> SV -> SV -> SV -> SV -> SV -> Heap -> Rs) -> Rs := fun f g b h e c i d a k =>
 o.geq d (.int .i64 0) fun l =>
 (o.cond l
 (o.add d b fun m =>
 o.idx 1 c m fun n =>
 o.load 1 false n a fun p =>
 o.conv .u64 p fun q =>
 o.shl q (.int .u64 32) fun r =>
 o.add d b fun s =>
 o.sub s (.int .i64 1) fun t =>
 o.idx 1 c t fun u =>
 o.load 1 false u a fun v =>
 o.conv .u64 v fun w =>
 o.or r w fun j =>
 o.sub b (.int .i64 1) fun x =>
 o.idx 1 e x fun y =>
 o.load 1 false y a fun z =>
 o.conv .u64 z fun A =>
 o.quo j A fun B =>
 o.sub b (.int .i64 1) fun D =>
 o.idx 1 e D fun E =>
 o.load 1 false E a fun F =>
 o.conv .u64 F fun G =>
 o.rem j G fun I =>
 (o.loop10 (f78_l3 o K C k) K f g b h e c i d B I a))
 (o.call (C 62 [i] a) fun J L =>
 o.call (C 97 [c, h] L) fun M N =>
 o.bstore 0 1 f J fun P =>
 o.bstore 0 1 g M fun Q =>
 o.resc 1 true (.box P) fun S =>
 o.resc 1 true (.box Q) fun T =>
 some (.tuple [S, T], N)))
def f78 (o : Ops) (K : Nat) (C : CallC) (g h : SV) (H : Heap) : Rs :=
 o.bbox g fun b =>
 o.bbox h fun a =>
 o.lfld 0 (.box a) fun i =>
 o.lloadp 1 false (.box a) i fun j =>
 o.len j fun c =>
 o.lfld 0 (.box a) fun k =>
 o.lloadp 1 false (.box a) k fun l =>
 o.lfld 0 (.box a) fun m =>
 o.lloadp 1 false (.box a) m fun n =>
 o.len n fun p =>
 o.sub p (.int .i64 1) fun q =>
 o.idx 1 l q fun r =>
 o.load 1 false r H fun s =>
 o.call (C 94 [s] H) fun d t =>
 o.lfld 0 (.box a) fun u =>
 o.lloadp 1 false (.box a) u fun v =>
 o.call (C 95 [v, d, c] t) fun w x =>
 o.lfld 0 (.box b) fun y =>
 o.lloadp 1 false (.box b) y fun z =>
 o.lfld 0 (.box b) fun A =>
 o.lloadp 1 false (.box b) A fun B =>
 o.len B fun D =>
 o.add D (.int .i64 1) fun E =>
 o.call (C 95 [z, d, E] x) fun f F =>
 o.len f fun G =>
 o.sub G c fun e =>
 o.make 1 4 [.int .u32 0] e e F fun I J =>
 o.sub e (.int .i64 1) fun L =>
 (o.loop8 (f78_l1 o K C) K (.box [.slice nilSl]) (.box [.slice nilSl]) c d w f I L J)
def f79_j3 (o : Ops) (K : Nat) (C : CallC) (e : SV -> SV -> SV -> SV -> SV -> Heap -> Rs) (a f g b h i j : SV) (c : Heap) : Rs :=
 o.idx 1 a b fun k =>
 o.load 1 false k c fun l =>
 o.call (C 98 [l, h, g] c) fun d m =>
 o.ext 0 d fun n =>
 o.ext 1 d fun p =>
 o.idx 1 a b fun q =>
 o.store 1 q n m fun r =>
 o.add j (.int .i64 1) fun s =>
 e a f p i s r
def f79_j5 (o : Ops) (K : Nat) (C : CallC) (a : Heap) : Rs :=
 some (.tuple [], a)
def f79_l1 (o : Ops) (K : Nat) (C : CallC) : SV -> SV -> SV -> SV -> SV -> Heap -> (SV -> SV -> SV -> SV -> SV -> Heap -> Rs) -> Rs := fun f c d e a b g =>
 o.lss a e fun h =>
 (o.cond h
 (o.len c fun i =>
 o.lss a i fun j =>
 (o.cond j
 (o.idx 1 c a fun k =>
 o.load 1 false k b fun l =>
 (f79_j3 o K C g f c d a l e a b))
 (o.eql d (.int .u32 0) fun m =>
 (o.cond m
 ((f79_j5 o K C b))
 ((f79_j3 o K C g f c d a (.int .u32 0) e a b))))))
 ((f79_j5 o K C b)))
def f79 (o : Ops) (K : Nat) (C : CallC) (a b : SV) (H : Heap) : Rs :=
 o.len a fun c =>
 (o.loop5 (f79_l1 o K C) K a b (.int .u32 0) c (.int .i64 0) H)
def f80_j2 (o : Ops) (K : Nat) (C : CallC) (d : SV -> SV -> Heap -> Rs) (b c e : SV) (a : Heap) : Rs :=
 (o.cond e
 (o.sub c (.int .i64 1) fun f =>
 d b f a)
 (o.slice010 1 b c a fun g =>
 o.rest g fun h =>
 some (h, a)))
def f80_l1 (o : Ops) (K : Nat) (C : CallC) : SV -> SV -> Heap -> (SV -> SV -> Heap -> Rs) -> Rs := fun b a c d =>
 o.gtr a (.int .i64 0) fun e =>
 (o.guard e
 (o.sub a (.int .i64 1) fun f =>
 o.idx 1 b f fun g =>
 o.load 1 false g c fun h =>
 o.eql h (.int .u32 0) fun i =>
 (f80_j2 o K C d b a i c))
 ((f80_j2 o K C d b a (.bool false) c))
 (none))
def f80 (o : Ops) (K : Nat) (C : CallC) (a : SV) (H : Heap) : Rs :=
 o.len a fun b =>
 (o.loop2 (f80_l1 o K C) K a b H)
def f81_l2 (o : Ops) (K : Nat) (C : CallC) : SV -> SV -> Heap -> (SV -> SV -> Heap -> Rs) -> Rs := fun a b c d =>
 o.gtr b (.int .u32 0) fun e =>
 (o.cond e
 (o.add a (.int .i64 1) fun f =>
 o.quo b (.int .u32 2) fun g =>
 d f g c)
 (o.rest a fun h =>
 some (h, c)))
def f81 (o : Ops) (K : Nat) (C : CallC) (a : SV) (H : Heap) : Rs :=
 o.len a fun b =>
 o.eql b (.int .i64 0) fun c =>
 (o.cond c
 (some ((.int .i64 0), H))
 (o.len a fun d =>
 o.sub d (.int .i64 1) fun e =>
 o.mul (.int .i64 16) e fun f =>
 o.len a fun g =>
 o.sub g (.int .i64 1) fun h =>
 o.idx 1 a h fun i =>
 o.load 1 false i H fun j =>
 (o.loop2 (f81_l2 o K C) K f j H)))
def f82_l3 (o : Ops) (K : Nat) (C : CallC) : SV -> SV -> SV -> Heap -> (SV -> SV -> SV -> Heap -> Rs) -> Rs := fun c d b a e =>
 o.geq b (.int .i64 0) fun f =>
 (o.cond f
 (o.idx 1 c b fun g =>
 o.load 1 false g a fun h =>
 o.idx 1 d b fun i =>
 o.load 1 false i a fun j =>
 o.lss h j fun k =>
 (o.cond k
 (some ((.int .i64 (-1)), a))
 (o.idx 1 c b fun l =>
 o.load 1 false l a fun m =>
 o.idx 1 d b fun n =>
 o.load 1 false n a fun p =>
 o.gtr m p fun q =>
 (o.cond q
 (some ((.int .i64 1), a))
 (o.sub b (.int .i64 1) fun r =>
 e c d r a)))))
 (some ((.int .i64 0), a)))
def f82 (o : Ops) (K : Nat) (C : CallC) (a b : SV) (H : Heap) : Rs :=
 o.len a fun c =>
 o.len b fun d =>
 o.neq c d fun e =>
 (o.cond e
 (o.len a fun f =>
 o.len b fun g =>
 o.lss f g fun h =>
 (o.cond h
 (some ((.int .i64 (-1)), H))
 (some ((.int .i64 1), H))))
 (o.len a fun i =>
 o.sub i (.int .i64 1) fun j =>
 (o.loop3 (f82_l3 o K C) K a b j H)))
def f83_j3 (o : Ops) (K : Nat) (C : CallC) (b : SV -> SV -> SV -> SV -> SV -> Heap -> Rs) (c d e f a : SV) (g : Heap) : Rs :=
 o.rem a (.int .u32 65536) fun h =>
 o.hbuild 1 [.int .u32 0] [(0, 1)] [h] g fun i j =>
 o.append 1 4 e i j fun k l =>
 o.quo a (.int .u32 65536) fun m =>
 o.sub (.int .u32 1) m fun n =>
 o.add f (.int .i64 1) fun p =>
 b c d k n p l
def f83_l1 (o : Ops) (K : Nat) (C : CallC) : SV -> SV -> SV -> SV -> SV -> Heap -> (SV -> SV -> SV -> SV -> SV -> Heap -> Rs) -> Rs := fun c d e h a b f =>
 o.len c fun i =>
 o.lss a i fun j =>
 (o.cond j
 (o.idx 1 c a fun k =>
 o.load 1 false k b fun l =>
 o.add l (.int .u32 65536) fun m =>
 o.sub m h fun g =>
 o.len d fun n =>
 o.lss a n fun p =>
 (o.cond p
 (o.idx 1 d a fun q =>
 o.load 1 false q b fun r =>
 o.sub g r fun s =>
 (f83_j3 o K C f c d e a s b))
 ((f83_j3 o K C f c d e a g b))))
 (o.call (C 80 [e] b) fun t u =>
 o.rest t fun v =>
 some (v, u)))
def f83 (o : Ops) (K : Nat) (C : CallC) (a b : SV) (H : Heap) : Rs :=
 (o.loop5 (f83_l1 o K C) K a b (.slice nilSl) (.int .u32 0) (.int .i64 0) H)
def f84_j16 (o : Ops) (K : Nat) (C : CallC) (g : SV -> SV -> SV -> SV -> SV -> SV -> SV -> SV -> Heap -> Rs) (b c h i j a k l m : SV) (d : Heap) : Rs :=
 (o.cond m
 (o.strcut10 b a fun n =>
 o.call (C 102 [n, c] d) fun e f =>
 o.lss e (.int .i64 0) fun p =>
 (o.cond p
 (some ((.int .i64 (-1)), f))
 (o.add a e fun q =>
 o.rest q fun r =>
 some (r, f))))
 (g b c h i j a k l d))
def f84_j14 (o : Ops) (K : Nat) (C : CallC) (h : SV -> SV -> SV -> SV -> SV -> SV -> SV -> SV -> Heap -> Rs) (b c d i j a e f m : SV) (g : Heap) : Rs :=
 (o.cond m
 (o.strcut10 b a fun n =>
 o.call (C 100 [n, c] g) fun k l =>
 o.geq k (.int .i64 0) fun p =>
 (o.cond p
 (o.add k a fun q =>
 o.rest q fun r =>
 some (r, l))
 (some ((.int .i64 (-1)), l))))
 (o.max [] fun s =>
 o.gtr d s fun t =>
 (o.guard t
 (o.shr a (.int .u64 4) fun u =>
 o.add (.int .i64 4) u fun v =>
 o.geq f v fun w =>
 (o.guard w
 (o.lss a e fun x =>
 (f84_j16 o K C h b c d i j a e f x g))
 ((f84_j16 o K C h b c d i j a e f (.bool false) g))
 (none)))
 ((f84_j16 o K C h b c d i j a e f (.bool false) g))
 (none))))
def f84_j12 (o : Ops) (K : Nat) (C : CallC) (e : SV -> SV -> SV -> SV -> SV -> SV -> SV -> SV -> Heap -> Rs) (f g a h i j k l m : SV) (b : Heap) : Rs :=
 (o.cond m
 (o.rest j fun n =>
 some (n, b))
 (o.add j (.int .i64 1) fun c =>
 o.add l (.int .i64 1) fun d =>
 o.max [] fun p =>
 o.leq a p fun q =>
 (o.guard q
 (o.call (C 101 [c] b) fun r s =>
 o.gtr d r fun t =>
 (f84_j14 o K C e f g a h i c k d t s))
 ((f84_j14 o K C e f g a h i c k d (.bool false) b))
 (none))))
def f84_j11 (o : Ops) (K : Nat) (C : CallC) (f : SV -> SV -> SV -> SV -> SV -> SV -> SV -> SV -> Heap -> Rs) (b c d g e a h i : SV) (j : Heap) : Rs :=
 o.add a (.int .i64 1) fun k =>
 o.stridx b k fun l =>
 o.eql l e fun m =>
 (o.guard m
 (o.add a d fun n =>
 o.strcut11 b a n fun p =>
 o.eql p c fun q =>
 (f84_j12 o K C f b c d g e a h i q j))
 ((f84_j12 o K C f b c d g e a h i (.bool false) j))
 (none))
def f84_l8 (o : Ops) (K : Nat) (C : CallC) : SV -> SV -> SV -> SV -> SV -> SV -> SV -> SV -> Heap -> (SV -> SV -> SV -> SV -> SV -> SV -> SV -> SV -> Heap -> Rs) -> Rs := fun b f g c h a d i e j =>
 o.lss a d fun m =>
 (o.cond m
 (o.stridx b a fun n =>
 o.neq n c fun p =>
 (o.cond p
 (o.add a (.int .i64 1) fun q =>
 o.strcut11 b q d fun r =>
 o.call (C 99 [r, c] e) fun k l =>
 o.lss k (.int .i64 0) fun s =>
 (o.cond s
 (some ((.int .i64 (-1)), l))
 (o.add k (.int .i64 1) fun t =>
 o.add a t fun u =>
 (f84_j11 o K C j b f g c h u d i l))))
 ((f84_j11 o K C j b f g c h a d i e))))
 (some ((.int .i64 (-1)), e)))
def f84_j2 (o : Ops) (K : Nat) (C : CallC) (b a c e : SV) (d : Heap) : Rs :=
 (o.cond e
 (o.call (C 100 [b, a] d) fun f g =>
 o.rest f fun h =>
 some (h, g))
 (o.stridx a (.int .i64 0) fun i =>
 o.stridx a (.int .i64 1) fun j =>
 o.slen b fun k =>
 o.sub k c fun l =>
 o.add l (.int .i64 1) fun m =>
 (o.loop8 (f84_l8 o K C) K b a c i j (.int .i64 0) m (.int .i64 0) d)))
def f84_j1 (o : Ops) (K : Nat) (C : CallC) (a d b e : SV) (c : Heap) : Rs :=
 (o.cond e
 (some ((.int .i64 0), c))
 (o.eql b (.int .i64 1) fun f =>
 (o.cond f
 (o.stridx d (.int .i64 0) fun g =>
 o.call (C 99 [a, g] c) fun h i =>
 o.rest h fun j =>
 some (j, i))
 (o.slen a fun k =>
 o.geq b k fun l =>
 (o.cond l
 (some ((.int .i64 (-1)), c))
 (o.max [] fun m =>
 o.leq b m fun n =>
 (o.guard n
 (o.slen a fun p =>
 o.leq p (.int .i64 64) fun q =>
 (f84_j2 o K C a d b q c))
 ((f84_j2 o K C a d b (.bool false) c))
 (none))))))))
def f84 (o : Ops) (K : Nat) (C : CallC) (b a : SV) (H : Heap) : Rs :=
 o.slen a fun c =>
 o.eql c (.int .i64 0) fun d =>
 (o.guard d
 ((f84_j1 o K C b a c (.bool true) H))
 (o.eql a b fun e =>
 (f84_j1 o K C b a c e H))
 (none))
def f85_j2 (o : Ops) (K : Nat) (C : CallC) (c : SV -> SV -> Heap -> Rs) (a d e : SV) (b : Heap) : Rs :=
 (o.cond e
 (o.strcut10 a (.int .i64 1) fun f =>
 c f d b)
 (o.rest a fun g =>
 some (g, b)))
def f85_l1 (o : Ops) (K : Nat) (C : CallC) : SV -> SV -> Heap -> (SV -> SV -> Heap -> Rs) -> Rs := fun a b c d =>
 o.slen a fun e =>
 o.gtr e (.int .i64 0) fun f =>
 (o.guard f
 (o.stridx a (.int .i64 0) fun g =>
 o.eql g b fun h =>
 (f85_j2 o K C d a b h c))
 ((f85_j2 o K C d a b (.bool false) c))
 (none))
def f85 (o : Ops) (K : Nat) (C : CallC) (a b : SV) (H : Heap) : Rs :=
 (o.loop2 (f85_l1 o K C) K a b H)
def f86_j2 (o : Ops) (K : Nat) (C : CallC) (c : SV -> SV -> Heap -> Rs) (a d e : SV) (b : Heap) : Rs :=
 (o.cond e
 (o.slen a fun f =>
 o.sub f (.int .i64 1) fun g =>
 o.strcut01 a g fun h =>
 c h d b)
 (o.rest a fun i =>
 some (i, b)))
def f86_l1 (o : Ops) (K : Nat) (C : CallC) : SV -> SV -> Heap -> (SV -> SV -> Heap -> Rs) -> Rs := fun a b c d =>
 o.slen a fun e =>
 o.gtr e (.int .i64 0) fun f =>
 (o.guard f
 (o.slen a fun g =>
 o.sub g (.int .i64 1) fun h =>
 o.stridx a h fun i =>
 o.eql i b fun j =>
 (f86_j2 o K C d a b j c))
 ((f86_j2 o K C d a b (.bool false) c))
 (none))
def f86 (o : Ops) (K : Nat) (C : CallC) (a b : SV) (H : Heap) : Rs :=
 (o.loop2 (f86_l1 o K C) K a b H)
def f87_l1 (o : Ops) (K : Nat) (C : CallC) : SV -> SV -> SV -> Heap -> (SV -> SV -> SV -> Heap -> Rs) -> Rs := fun b a c d f =>
 o.slen b fun g =>
 o.lss c g fun h =>
 (o.cond h
 (o.stridx b c fun e =>
 o.geq e (.int .u8 128) fun i =>
 (o.cond i
 (o.lload 0 256 true a fun j =>
 o.bstore 0 256 a j fun k =>
 o.resc 256 true (.box k) fun l =>
 some (.tuple [l, (.bool false)], d))
 (o.lidx 256 1 a e fun m =>
 o.bstorep 1 a m (.bool true) fun n =>
 o.add c (.int .i64 1) fun p =>
 f b (.box n) p d)))
 (o.lload 0 256 true a fun q =>
 o.bstore 0 256 a q fun r =>
 o.resc 256 true (.box r) fun s =>
 some (.tuple [s, (.bool true)], d)))
def f87 (o : Ops) (K : Nat) (C : CallC) (a : SV) (H : Heap) : Rs :=
 (o.loop3 (f87_l1 o K C) K a (.box [.bool false, .bool false, .bool false, .bool false, .bool false, .bool false, .bool false, .bool false, .bool false, .bool false, .bool false, .bool false, .bool false, .bool false, .bool false, .bool false, .bool false, .bool false, .bool false, .bool false, .bool false, .bool false, .bool false, .bool false, .bool false, .bool false, .bool false, .bool false, .bool false, .bool false, .bool false, .bool false, .bool false, .bool false, .bool false, .bool false, .bool false, .bool false, .bool false, .bool false, .bool false, .bool false, .bool false, .bool false, .bool false, .bool false, .bool false, .bool false, .bool false, .bool false, .bool false, .bool false, .bool false, .bool false, .bool false, .bool false, .bool false, .bool false, .bool false, .bool false, .bool false, .bool false, .bool false, .bool false, .bool false, .bool false, .bool false, .bool false, .bool false, .bool false, .bool false, .bool false, .bool false, .bool false, .bool false, .bool false, .bool false, .bool false, .bool false, .bool false, .bool false, .bool false, .bool false, .bool false, .bool false, .bool false, .bool false, .bool false, .bool false, .bool false, .bool false, .bool false, .bool false, .bool false, .bool false, .bool false, .bool false, .bool false, .bool false, .bool false, .bool false, .bool false, .bool false, .bool false, .bool false, .bool false, .bool false, .bool false, .bool false, .bool false, .bool false, .bool false, .bool false, .bool false, .bool false, .bool false, .bool false, .bool false, .bool false, .bool false, .bool false, .bool false, .bool false, .bool false, .bool false, .bool false, .bool false, .bool false, .bool false, .bool false, .bool false, .bool false, .bool false, .bool false, .bool false, .bool false, .bool false, .bool false, .bool false, .bool false, .bool false, .bool false, .bool false, .bool false, .bool false, .bool false, .bool false, .bool false, .bool false, .bool false, .bool false, .bool false, .bool false, .bool false, .bool false, .bool false, .bool false, .bool false, .bool false, .bool false, .bool false, .bool false, .bool false, .bool false, .bool false, .bool false, .bool false, .bool false, .bool false, .bool false, .bool false, .bool false, .bool false, .bool false, .bool false, .bool false, .bool false, .bool false, .bool false, .bool false, .bool false, .bool false, .bool false, .bool false, .bool false, .bool false, .bool false, .bool false, .bool false, .bool false, .bool false, .bool false, .bool false, .bool false, .bool false, .bool false, .bool false, .bool false, .bool false, .bool false, .bool false, .bool false, .bool false, .bool false, .bool false, .bool false, .bool false, .bool false, .bool false, .bool false, .bool false, .bool false, .bool false, .bool false, .bool false, .bool false, .bool false, .bool false, .bool false, .bool false, .bool false, .bool false, .bool false, .bool false, .bool false, .bool false, .bool false, .bool false, .bool false, .bool false, .bool false, .bool false, .bool false, .bool false, .bool false, .bool false, .bool false, .bool false, .bool false, .bool false, .bool false, .bool false, .bool false, .bool false, .bool false, .bool false, .bool false, .bool false, .bool false, .bool false, .bool false, .bool false, .bool false, .bool false, .bool false, .bool false]) (.int .i64 0) H)
def f88_j3 (o : Ops) (K : Nat) (C : CallC) (a : SV) (b : Heap) : Rs :=
 o.rest a fun c =>
 some (c, b)
def f88_l1 (o : Ops) (K : Nat) (C : CallC) : SV -> SV -> Heap -> (SV -> SV -> Heap -> Rs) -> Rs := fun a b c e =>
 o.slen a fun f =>
 o.gtr f (.int .i64 0) fun g =>
 (o.cond g
 (o.stridx a (.int .i64 0) fun h =>
 o.call (C 103 [b, h] c) fun i d =>
 o.u_not i fun j =>
 (o.cond j
 ((f88_j3 o K C a d))
 (o.strcut10 a (.int .i64 1) fun k =>
 e k b d)))
 ((f88_j3 o K C a c)))
def f88 (o : Ops) (K : Nat) (C : CallC) (a b : SV) (H : Heap) : Rs :=
 (o.loop2 (f88_l1 o K C) K a b H)
def f89_j3 (o : Ops) (K : Nat) (C : CallC) (a : SV) (b : Heap) : Rs :=
 o.rest a fun c =>
 some (c, b)
def f89_l1 (o : Ops) (K : Nat) (C : CallC) : SV -> SV -> Heap -> (SV -> SV -> Heap -> Rs) -> Rs := fun a b c e =>
 o.slen a fun f =>
 o.gtr f (.int .i64 0) fun g =>
 (o.cond g
 (o.slen a fun h =>
 o.sub h (.int .i64 1) fun i =>
 o.stridx a i fun j =>
 o.call (C 103 [b, j] c) fun k d =>
 o.u_not k fun l =>
 (o.cond l
 ((f89_j3 o K C a d))
 (o.slen a fun m =>
 o.sub m (.int .i64 1) fun n =>
 o.strcut01 a n fun p =>
 e p b d)))
 ((f89_j3 o K C a c)))
def f89 (o : Ops) (K : Nat) (C : CallC) (a b : SV) (H : Heap) : Rs :=
 (o.loop2 (f89_l1 o K C) K a b H)
def f90_j3 (o : Ops) (K : Nat) (C : CallC) (a : SV) (b : Heap) : Rs :=
 o.rest a fun c =>
 some (c, b)
def f90_l1 (o : Ops) (K : Nat) (C : CallC) : SV -> SV -> Heap -> (SV -> SV -> Heap -> Rs) -> Rs := fun a b c f =>
 o.slen a fun g =>
 o.gtr g (.int .i64 0) fun h =>
 (o.cond h
 (o.call (C 104 [a] c) fun d i =>
 o.ext 0 d fun j =>
 o.ext 1 d fun k =>
 o.call (C 105 [b, j] i) fun l e =>
 o.u_not l fun m =>
 (o.cond m
 ((f90_j3 o K C a e))
 (o.strcut10 a k fun n =>
 f n b e)))
 ((f90_j3 o K C a c)))
def f90 (o : Ops) (K : Nat) (C : CallC) (a b : SV) (H : Heap) : Rs :=
 (o.loop2 (f90_l1 o K C) K a b H)
def f91_j4 (o : Ops) (K : Nat) (C : CallC) (a : SV) (b : Heap) : Rs :=
 o.rest a fun c =>
 some (c, b)
def f91_j3 (o : Ops) (K : Nat) (C : CallC) (d : SV -> SV -> Heap -> Rs) (a b e f : SV) (g : Heap) : Rs :=
 o.call (C 105 [b, e] g) fun h c =>
 o.u_not h fun i =>
 (o.cond i
 ((f91_j4 o K C a c))
 (o.slen a fun j =>
 o.sub j f fun k =>
 o.strcut01 a k fun l =>
 d l b c))
def f91_l1 (o : Ops) (K : Nat) (C : CallC) : SV -> SV -> Heap -> (SV -> SV -> Heap -> Rs) -> Rs := fun a c b d =>
 o.slen a fun g =>
 o.gtr g (.int .i64 0) fun h =>
 (o.cond h
 (o.slen a fun i =>
 o.sub i (.int .i64 1) fun j =>
 o.stridx a j fun k =>
 o.conv .i32 k fun e =>
 o.geq e (.int .i32 128) fun l =>
 (o.cond l
 (o.call (C 106 [a] b) fun f m =>
 o.ext 0 f fun n =>
 o.ext 1 f fun p =>
 (f91_j3 o K C d a c n p m))
 ((f91_j3 o K C d a c e (.int .i64 1) b))))
 ((f91_j4 o K C a b)))
def f91 (o : Ops) (K : Nat) (C : CallC) (a b : SV) (H : Heap) : Rs :=
 (o.loop2 (f91_l1 o K C) K a b H)
def f92_j2 (o : Ops) (K : Nat) (C : CallC) (c : SV -> Heap -> Rs) (b d : SV) (a : Heap) : Rs :=
 (o.cond d
 (o.slice100 1 b (.int .i64 1) a fun e =>
 c e a)
 (o.rest b fun f =>
 some (f, a)))
def f92_l1 (o : Ops) (K : Nat) (C : CallC) : SV -> Heap -> (SV -> Heap -> Rs) -> Rs := fun a b c =>
 o.len a fun d =>
 o.gtr d (.int .i64 0) fun e =>
 (o.guard e
 (o.idx 1 a (.int .i64 0) fun f =>
 o.load 1 false f b fun g =>
 o.eql g (.int .u64 0) fun h =>
 (f92_j2 o K C c a h b))
 ((f92_j2 o K C c a (.bool false) b))
 (none))
def f92 (o : Ops) (K : Nat) (C : CallC) (a : SV) (H : Heap) : Rs :=
 (o.loop1 (f92_l1 o K C) K a H)
def f93_l3 (o : Ops) (K : Nat) (C : CallC) (p : SV -> SV -> SV -> SV -> SV -> SV -> Heap -> Rs) : SV -> SV -> SV -> SV -> SV -> SV -> SV -> SV -> SV -> SV -> SV -> SV -> Heap -> (SV -> SV -> SV -> SV -> SV -> SV -> SV -> SV -> SV -> SV -> SV -> SV -> Heap -> Rs) -> Rs := fun c f a d g h i j k l m b e q =>
 o.lss b m fun r =>
 (o.cond r
 (o.idx 1 l b fun s =>
 o.load 1 false s e fun t =>
 o.conv .u64 g fun u =>
 o.conv .u64 t fun v =>
 o.mul u v fun w =>
 o.add d b fun x =>
 o.idx 1 a x fun y =>
 o.load 1 false y e fun z =>
 o.conv .u64 z fun A =>
 o.add w A fun B =>
 o.add h B fun n =>
 o.add d b fun D =>
 o.conv .u32 n fun E =>
 o.idx 1 a D fun F =>
 o.store 1 F E e fun G =>
 o.shr n (.int .u64 32) fun I =>
 o.add b (.int .i64 1) fun J =>
 q c f a d g I i j k l m J G)
 (o.lfld 0 c fun L =>
 o.lloadp 1 false c L fun M =>
 o.len M fun N =>
 o.add d N fun P =>
 o.conv .u32 h fun Q =>
 o.idx 1 a P fun S =>
 o.store 1 S Q e fun T =>
 o.add k (.int .i64 1) fun U =>
 p c f a i j U T))
def f93_l1 (o : Ops) (K : Nat) (C : CallC) : SV -> SV -> SV -> SV -> SV -> SV -> Heap -> (SV -> SV -> SV -> SV -> SV -> SV -> Heap -> Rs) -> Rs := fun b d e f g a c i =>
 o.lss a g fun j =>
 (o.cond j
 (o.idx 1 f a fun k =>
 o.load 1 false k c fun l =>
 o.lfld 0 b fun m =>
 o.lloadp 1 false b m fun h =>
 o.len h fun n =>
 (o.loop12 (f93_l3 o K C i) K b d e a l (.int .u64 0) f g a h n (.int .i64 0) c))
 (o.call (C 62 [e] c) fun p q =>
 o.bstore 0 1 d p fun r =>
 o.resc 1 true (.box r) fun s =>
 some (s, q)))
def f93 (o : Ops) (K : Nat) (C : CallC) (e f : SV) (H : Heap) : Rs :=
 o.bbox e fun a =>
 o.bbox f fun b =>
 o.lfld 0 (.box a) fun g =>
 o.lloadp 1 false (.box a) g fun h =>
 o.len h fun i =>
 o.lfld 0 (.box b) fun j =>
 o.lloadp 1 false (.box b) j fun k =>
 o.len k fun l =>
 o.add i l fun c =>
 o.make 1 4 [.int .u32 0] c c H fun m n =>
 o.lfld 0 (.box a) fun p =>
 o.lloadp 1 false (.box a) p fun d =>
 o.len d fun q =>
 (o.loop6 (f93_l1 o K C) K (.box b) (.box [.slice nilSl]) m d q (.int .i64 0) n)
def f94 (o : Ops) (K : Nat) (C : CallC) (a : SV) (H : Heap) : Rs :=
 o.call (C 60 [a] H) fun b c =>
 o.sub (.int .i64 32) b fun d =>
 o.rest d fun e =>
 some (e, c)
def f95_j3 (o : Ops) (K : Nat) (C : CallC) (c : SV -> SV -> SV -> SV -> SV -> SV -> Heap -> Rs) (d e a b f g h : SV) (i : Heap) : Rs :=
 o.conv .u32 b fun j =>
 o.idx 1 a f fun k =>
 o.store 1 k j i fun l =>
 o.shr b (.int .u64 32) fun m =>
 o.add h (.int .i64 1) fun n =>
 c d e a m g n l
def f95_l1 (o : Ops) (K : Nat) (C : CallC) : SV -> SV -> SV -> SV -> SV -> SV -> Heap -> (SV -> SV -> SV -> SV -> SV -> SV -> Heap -> Rs) -> Rs := fun b d e g f a c h =>
 o.lss a f fun i =>
 (o.cond i
 (o.len b fun j =>
 o.lss a j fun k =>
 (o.cond k
 (o.idx 1 b a fun l =>
 o.load 1 false l c fun m =>
 o.conv .u64 m fun n =>
 o.shl n d fun p =>
 o.or g p fun q =>
 (f95_j3 o K C h b d e q a f a c))
 ((f95_j3 o K C h b d e g a f a c))))
 (o.rest e fun r =>
 some (r, c)))
def f95 (o : Ops) (K : Nat) (C : CallC) (c d a : SV) (H : Heap) : Rs :=
 o.make 1 4 [.int .u32 0] a a H fun b e =>
 o.len b fun f =>
 (o.loop6 (f95_l1 o K C) K c d b (.int .u64 0) f (.int .i64 0) e)
def f96_j3 (o : Ops) (K : Nat) (C : CallC) (f : SV -> SV -> SV -> SV -> SV -> SV -> SV -> Heap -> Rs) (a g h b i c j k : SV) (d : Heap) : Rs :=
 o.idx 1 a c fun l =>
 o.load 1 false l d fun m =>
 o.conv .u32 b fun n =>
 o.call (C 98 [m, n, i] d) fun e p =>
 o.ext 0 e fun q =>
 o.ext 1 e fun r =>
 o.idx 1 a c fun s =>
 o.store 1 s q p fun t =>
 o.shr b (.int .u64 32) fun u =>
 o.add k (.int .i64 1) fun v =>
 f a g h u r j v t
def f96_l1 (o : Ops) (K : Nat) (C : CallC) : SV -> SV -> SV -> SV -> SV -> SV -> SV -> Heap -> (SV -> SV -> SV -> SV -> SV -> SV -> SV -> Heap -> Rs) -> Rs := fun g b d h e f a c i =>
 o.lss a f fun j =>
 (o.cond j
 (o.len b fun k =>
 o.lss a k fun l =>
 (o.cond l
 (o.idx 1 b a fun m =>
 o.load 1 false m c fun n =>
 o.conv .u64 n fun p =>
 o.conv .u64 d fun q =>
 o.mul p q fun r =>
 o.add h r fun s =>
 (f96_j3 o K C i g b d s e a f a c))
 ((f96_j3 o K C i g b d h e a f a c))))
 (o.neq e (.int .u32 0) fun t =>
 o.rest t fun u =>
 some (u, c)))
def f96 (o : Ops) (K : Nat) (C : CallC) (a b c : SV) (H : Heap) : Rs :=
 o.len a fun d =>
 (o.loop7 (f96_l1 o K C) K a b c (.int .u64 0) (.int .u32 0) d (.int .i64 0) H)
def f97_j3 (o : Ops) (K : Nat) (C : CallC) (c : SV -> SV -> SV -> SV -> SV -> SV -> Heap -> Rs) (d a e b f g h i : SV) (j : Heap) : Rs :=
 o.shr g a fun k =>
 o.conv .u32 k fun l =>
 o.idx 1 b f fun m =>
 o.store 1 m l j fun n =>
 o.add i (.int .i64 1) fun p =>
 c d a e b h p n
def f97_l1 (o : Ops) (K : Nat) (C : CallC) : SV -> SV -> SV -> SV -> SV -> SV -> Heap -> (SV -> SV -> SV -> SV -> SV -> SV -> Heap -> Rs) -> Rs := fun b g d e f a c h =>
 o.lss a f fun j =>
 (o.cond j
 (o.idx 1 b a fun k =>
 o.load 1 false k c fun l =>
 o.conv .u64 l fun i =>
 o.add a (.int .i64 1) fun m =>
 o.len b fun n =>
 o.lss m n fun p =>
 (o.cond p
 (o.add a (.int .i64 1) fun q =>
 o.idx 1 b q fun r =>
 o.load 1 false r c fun s =>
 o.conv .u64 s fun t =>
 o.shl t (.int .u64 32) fun u =>
 o.or i u fun v =>
 (f97_j3 o K C h b g d e a v f a c))
 ((f97_j3 o K C h b g d e a i f a c))))
 (o.call (C 62 [e] c) fun w x =>
 o.bstore 0 1 d w fun y =>
 o.resc 1 true (.box y) fun z =>
 some (z, x)))
def f97 (o : Ops) (K : Nat) (C : CallC) (a c : SV) (H : Heap) : Rs :=
 o.len a fun b =>
 o.make 1 4 [.int .u32 0] b b H fun d e =>
 o.len a fun f =>
 (o.loop6 (f97_l1 o K C) K a c (.box [.slice nilSl]) d f (.int .i64 0) e)
def f98 (o : Ops) (K : Nat) (C : CallC) (a b d : SV) (H : Heap) : Rs :=
 o.sub a b fun e =>
 o.sub e d fun c =>
 o.u_xor a fun f =>
 o.and f b fun g =>
 o.xor a b fun h =>
 o.u_xor h fun i =>
 o.and i c fun j =>
 o.or g j fun k =>
 o.shr k (.int .u64 31) fun l =>
 o.rest c fun m =>
 o.rest l fun n =>
 some (.tuple [m, n], H)
def f99 (o : Ops) (K : Nat) (C : CallC) (a b : SV) (H : Heap) : Rs :=
 o.call (C 107 [a, b] H) fun c d =>
 o.rest c fun e =>
 some (e, d)
def f101 (o : Ops) (K : Nat) (C : CallC) (a : SV) (H : Heap) : Rs :=
 o.add a (.int .i64 16) fun b =>
 o.quo b (.int .i64 8) fun c =>
 o.rest c fun d =>
 some (d, H)
def f102_j9 (o : Ops) (K : Nat) (C : CallC) (d : SV -> SV -> SV -> SV -> SV -> SV -> SV -> Heap -> Rs) (e f g h a i b j : SV) (c : Heap) : Rs :=
 (o.cond j
 (o.sub b a fun k =>
 o.rest k fun l =>
 some (l, c))
 (d e f g h a i b c))
def f102_l7 (o : Ops) (K : Nat) (C : CallC) : SV -> SV -> SV -> SV -> SV -> SV -> SV -> Heap -> (SV -> SV -> SV -> SV -> SV -> SV -> SV -> Heap -> Rs) -> Rs := fun a e f g b k c h j =>
 o.slen a fun l =>
 o.lss c l fun m =>
 (o.cond m
 (o.mul k (.int .u32 16777619) fun n =>
 o.stridx a c fun p =>
 o.conv .u32 p fun q =>
 o.add n q fun r =>
 o.sub c b fun s =>
 o.stridx a s fun t =>
 o.conv .u32 t fun u =>
 o.mul g u fun v =>
 o.sub r v fun i =>
 o.add c (.int .i64 1) fun d =>
 o.eql i f fun w =>
 (o.guard w
 (o.sub d b fun x =>
 o.strcut11 a x d fun y =>
 o.eql y e fun z =>
 (f102_j9 o K C j a e f g b i d z h))
 ((f102_j9 o K C j a e f g b i d (.bool false) h))
 (none)))
 (some ((.int .i64 (-1)), h)))
def f102_j5 (o : Ops) (K : Nat) (C : CallC) (c d e f a g h : SV) (b : Heap) : Rs :=
 (o.cond h
 (some ((.int .i64 0), b))
 ((o.loop7 (f102_l7 o K C) K c d e f a g a b)))
def f102_l1 (o : Ops) (K : Nat) (C : CallC) : SV -> SV -> SV -> SV -> SV -> SV -> SV -> Heap -> (SV -> SV -> SV -> SV -> SV -> SV -> SV -> Heap -> Rs) -> Rs := fun a c d f b e g h i =>
 o.lss g b fun j =>
 (o.cond j
 (o.mul e (.int .u32 16777619) fun k =>
 o.stridx a g fun l =>
 o.conv .u32 l fun m =>
 o.add k m fun n =>
 o.add g (.int .i64 1) fun p =>
 i a c d f b n p h)
 (o.eql e d fun q =>
 (o.guard q
 (o.strcut01 a b fun r =>
 o.eql r c fun s =>
 (f102_j5 o K C a c d f b e s h))
 ((f102_j5 o K C a c d f b e (.bool false) h))
 (none))))
def f102 (o : Ops) (K : Nat) (C : CallC) (c a : SV) (H : Heap) : Rs :=
 o.call (C 108 [a] H) fun b d =>
 o.ext 0 b fun e =>
 o.ext 1 b fun f =>
 o.slen a fun g =>
 (o.loop7 (f102_l1 o K C) K c a e f g (.int .u32 0) (.int .i64 0) d)
def f103 (o : Ops) (K : Nat) (C : CallC) (a b : SV) (H : Heap) : Rs :=
 o.nilchk a fun c =>
 o.pidx 256 1 c b fun d =>
 o.load 1 false d H fun e =>
 o.rest e fun f =>
 some (f, H)
def f104_j1 (o : Ops) (K : Nat) (C : CallC) (a d : SV) (b : Heap) : Rs :=
 (o.cond d
 (o.stridx a (.int .i64 0) fun e =>
 o.conv .i32 e fun f =>
 o.rest f fun g =>
 some (.tuple [g, (.int .i64 1)], b))
 (o.call (C 109 [a] b) fun c h =>
 o.ext 0 c fun i =>
 o.ext 1 c fun j =>
 o.rest i fun k =>
 o.rest j fun l =>
 some (.tuple [k, l], h)))
def f104 (o : Ops) (K : Nat) (C : CallC) (a : SV) (H : Heap) : Rs :=
 o.neq a (.str []) fun b =>
 (o.guard b
 (o.stridx a (.int .i64 0) fun c =>
 o.lss c (.int .u8 128) fun d =>
 (f104_j1 o K C a d H))
 ((f104_j1 o K C a (.bool false) H))
 (none))
def f105 (o : Ops) (K : Nat) (C : CallC) (a b : SV) (H : Heap) : Rs :=
 o.call (C 110 [a, b] H) fun c d =>
 o.geq c (.int .i64 0) fun e =>
 o.rest e fun f =>
 some (f, d)
def f106_j6 (o : Ops) (K : Nat) (C : CallC) (f a b : SV) (g : Heap) : Rs :=
 o.strcut11 f b a fun h =>
 o.call (C 104 [h] g) fun c d =>
 o.ext 0 c fun i =>
 o.ext 1 c fun e =>
 o.add b e fun j =>
 o.neq j a fun k =>
 (o.cond k
 (some (.tuple [(.int .i32 65533), (.int .i64 1)], d))
 (o.rest i fun l =>
 o.rest e fun m =>
 some (.tuple [l, m], d)))
def f106_j5 (o : Ops) (K : Nat) (C : CallC) (a b c : SV) (d : Heap) : Rs :=
 o.lss c (.int .i64 0) fun e =>
 (o.cond e
 ((f106_j6 o K C a b (.int .i64 0) d))
 ((f106_j6 o K C a b c d)))
def f106_l3 (o : Ops) (K : Nat) (C : CallC) : SV -> SV -> SV -> SV -> Heap -> (SV -> SV -> SV -> SV -> Heap -> Rs) -> Rs := fun b c a d e g =>
 o.geq a d fun h =>
 (o.cond h
 (o.stridx b a fun i =>
 o.call (C 111 [i] e) fun j f =>
 (o.cond j
 ((f106_j5 o K C b c a f))
 (o.sub a (.int .i64 1) fun k =>
 g b c k d f)))
 ((f106_j5 o K C b c a e)))
def f106 (o : Ops) (K : Nat) (C : CallC) (b : SV) (H : Heap) : Rs :=
 o.slen b fun a =>
 o.eql a (.int .i64 0) fun e =>
 (o.cond e
 (some (.tuple [(.int .i32 65533), (.int .i64 0)], H))
 (o.sub a (.int .i64 1) fun c =>
 o.stridx b c fun f =>
 o.conv .i32 f fun d =>
 o.lss d (.int .i32 128) fun g =>
 (o.cond g
 (o.rest d fun h =>
 some (.tuple [h, (.int .i64 1)], H))
 (o.sub a (.int .i64 4) fun i =>
 o.max [i, (.int .i64 0)] fun j =>
 o.sub c (.int .i64 1) fun k =>
 (o.loop4 (f106_l3 o K C) K b a k j H)))))
def f108_j7 (o : Ops) (K : Nat) (C : CallC) (b : SV -> SV -> SV -> SV -> Heap -> Rs) (c d a e : SV) (f : Heap) : Rs :=
 o.mul a a fun g =>
 o.shr e (.int .u64 1) fun h =>
 b c d g h f
def f108_l5 (o : Ops) (K : Nat) (C : CallC) : SV -> SV -> SV -> SV -> Heap -> (SV -> SV -> SV -> SV -> Heap -> Rs) -> Rs := fun b c d a e f =>
 o.gtr a (.int .i64 0) fun g =>
 (o.cond g
 (o.and a (.int .i64 1) fun h =>
 o.neq h (.int .i64 0) fun i =>
 (o.cond i
 (o.mul c d fun j =>
 (f108_j7 o K C f b j d a e))
 ((f108_j7 o K C f b c d a e))))
 (o.rest b fun k =>
 o.rest c fun l =>
 some (.tuple [k, l], e)))
def f108_l1 (o : Ops) (K : Nat) (C : CallC) : SV -> SV -> SV -> Heap -> (SV -> SV -> SV -> Heap -> Rs) -> Rs := fun a c b d e =>
 o.slen a fun f =>
 o.lss b f fun g =>
 (o.cond g
 (o.mul c (.int .u32 16777619) fun h =>
 o.stridx a b fun i =>
 o.conv .u32 i fun j =>
 o.add h j fun k =>
 o.add b (.int .i64 1) fun l =>
 e a k l d)
 (o.slen a fun m =>
 (o.loop4 (f108_l5 o K C) K c (.int .u32 1) (.int .u32 16777619) m d)))
def f108 (o : Ops) (K : Nat) (C : CallC) (a : SV) (H : Heap) : Rs :=
 (o.loop3 (f108_l1 o K C) K a (.int .u32 0) (.int .i64 0) H)
def f111 (o : Ops) (K : Nat) (C : CallC) (a : SV) (H : Heap) : Rs :=
 o.and a (.int .u8 192) fun b =>
 o.neq b (.int .u8 128) fun c =>
 o.rest c fun d =>
 some (d, H)
end Go.Sh.Of
