/- Plain forms, printed by a program. -/
import Derived.Test.YtcfheodfkmelmaaSh26
set_option linter.unusedVariables false
set_option maxRecDepth 100000
namespace Go.Sh.Of
open Go
def f3_j3 (o : Ops) (K : Nat) (C : CallC) (a : SV) (b : Heap) : Rs :=
 o.rest a fun c =>
 some (c, b)
def f3_l9 (o : Ops) (K : Nat) (C : CallC) (l : SV -> SV -> SV -> SV -> SV -> SV -> SV -> SV -> SV -> Heap -> Rs) : SV -> SV -> SV -> SV -> SV -> SV -> SV -> SV -> SV -> SV -> Heap -> (SV -> SV -> SV -> SV -> SV -> SV -> SV -> SV -> SV -> SV -> Heap -> Rs) -> Rs := fun b c d e a f g h i j k m =>
 o.gtr a (.int .i64 0) fun n =>
 (o.cond n
 (o.rem e a fun p =>
 m b c d a p f g h i j k)
 (o.add j (.int .i64 1) fun q =>
 l b c d e f g h i q k))
def f3_l7 (o : Ops) (K : Nat) (C : CallC) (l : SV -> SV -> SV -> SV -> SV -> SV -> Heap -> Rs) : SV -> SV -> SV -> SV -> SV -> SV -> SV -> SV -> SV -> Heap -> (SV -> SV -> SV -> SV -> SV -> SV -> SV -> SV -> SV -> Heap -> Rs) -> Rs := fun c d e f g h i j a b m =>
 o.lss a j fun n =>
 (o.cond n
 (o.idx 1 i a fun p =>
 o.load 1 false p b fun k =>
 o.u_neg k fun q =>
 o.max [k, q] fun r =>
 (o.loop10 (f3_l9 o K C m) K c d e f r g h i j a b))
 (o.add h (.int .i64 1) fun s =>
 l c d e f g s b))
def f3_l21 (o : Ops) (K : Nat) (C : CallC) (l : SV -> SV -> SV -> SV -> SV -> SV -> SV -> Heap -> Rs) : SV -> SV -> SV -> SV -> SV -> SV -> SV -> SV -> SV -> SV -> Heap -> (SV -> SV -> SV -> SV -> SV -> SV -> SV -> SV -> SV -> SV -> Heap -> Rs) -> Rs := fun c g d e h f i j k b a m =>
 o.lss b k fun n =>
 (o.cond n
 (o.idx 1 e f fun p =>
 o.load 1 false p a fun q =>
 o.idx 1 q b fun r =>
 o.load 1 false r a fun s =>
 o.mul s d fun t =>
 o.idx 1 c f fun u =>
 o.load 1 false u a fun v =>
 o.idx 1 v b fun w =>
 o.load 1 false w a fun x =>
 o.neq t x fun y =>
 (o.cond y
 (some ((.bool false), a))
 (o.add b (.int .i64 1) fun z =>
 m c g d e h f i j k z a)))
 (o.add j (.int .i64 1) fun A =>
 l c g d e h i A a))
def f3_j28 (o : Ops) (K : Nat) (C : CallC) (a : SV) (b : Heap) : Rs :=
 o.rest a fun c =>
 some (c, b)
def f3_l19 (o : Ops) (K : Nat) (C : CallC) : SV -> SV -> SV -> SV -> SV -> SV -> SV -> Heap -> (SV -> SV -> SV -> SV -> SV -> SV -> SV -> Heap -> Rs) -> Rs := fun b c d j e f a g k =>
 o.lss a f fun l =>
 (o.cond l
 (o.len b fun m =>
 (o.loop10 (f3_l21 o K C k) K b c d j e a f a m (.int .i64 0) g))
 (o.lload 0 1 true e fun n =>
 o.conv .u64 d fun p =>
 o.call (C 10 [p] g) fun q r =>
 o.call (C 9 [n, q] r) fun h i =>
 o.ext 0 h fun s =>
 o.ext 1 h fun t =>
 o.bstore 0 1 (.box [.slice nilSl]) s fun u =>
 o.eql t (.int .i64 0) fun v =>
 (o.guard v
 (o.lload 0 1 true (.box u) fun w =>
 o.lload 0 1 true c fun x =>
 o.call (C 11 [w, x] i) fun y z =>
 o.eql y (.int .i64 0) fun A =>
 (f3_j28 o K C A z))
 ((f3_j28 o K C (.bool false) i))
 (none))))
def f3_j17 (o : Ops) (K : Nat) (C : CallC) (a c d e f g : SV) (b : Heap) : Rs :=
 (o.cond g
 (some ((.bool false), b))
 (o.len a fun h =>
 (o.loop7 (f3_l19 o K C) K a c d e f h (.int .i64 0) b)))
def f3_l5 (o : Ops) (K : Nat) (C : CallC) : SV -> SV -> SV -> SV -> SV -> SV -> Heap -> (SV -> SV -> SV -> SV -> SV -> SV -> Heap -> Rs) -> Rs := fun a f c b k g h n =>
 o.lss g k fun p =>
 (o.cond p
 (o.idx 1 a g fun q =>
 o.load 1 false q h fun l =>
 o.len l fun r =>
 (o.loop9 (f3_l7 o K C n) K a f c b k g l r (.int .i64 0) h))
 (o.call (C 6 [f] h) fun i m =>
 o.ext 0 i fun d =>
 o.ext 1 i fun s =>
 o.ext 2 i fun t =>
 o.bstore 0 1 (.box [.slice nilSl]) s fun e =>
 o.neq t (.int .i64 0) fun u =>
 (o.guard u
 ((f3_j17 o K C a c b d (.box e) (.bool true) m))
 (o.call (C 8 [f] m) fun v j =>
 o.neq v (.int .i64 0) fun w =>
 (o.guard w
 ((f3_j17 o K C a c b d (.box e) (.bool true) j))
 (o.len d fun x =>
 o.len a fun y =>
 o.neq x y fun z =>
 (o.guard z
 ((f3_j17 o K C a c b d (.box e) (.bool true) j))
 (o.eql b (.int .i64 0) fun A =>
 (f3_j17 o K C a c b d (.box e) A j))
 (none)))
 (none)))
 (none))))
def f3_j1 (o : Ops) (K : Nat) (C : CallC) (a g : SV) (d : Heap) : Rs :=
 (o.cond g
 (o.call (C 4 [] d) fun h i =>
 o.rest h fun j =>
 some (j, i))
 (o.call (C 6 [a] d) fun b c =>
 o.ext 0 b fun e =>
 o.ext 1 b fun k =>
 o.ext 2 b fun l =>
 o.bstore 0 1 (.box [.slice nilSl]) k fun f =>
 o.neq l (.int .i64 0) fun m =>
 (o.cond m
 (o.len e fun n =>
 o.eql n (.int .i64 0) fun p =>
 (o.guard p
 (o.lload 0 1 true (.box f) fun q =>
 o.call (C 7 [q] c) fun r s =>
 o.eql r (.int .i64 0) fun t =>
 (f3_j3 o K C t s))
 ((f3_j3 o K C (.bool false) c))
 (none)))
 (o.len a fun u =>
 (o.loop6 (f3_l5 o K C) K a e (.box f) (.int .i64 0) u (.int .i64 0) c)))))
def f3 (o : Ops) (K : Nat) (C : CallC) (a : SV) (H : Heap) : Rs :=
 o.call (C 4 [] H) fun c b =>
 o.u_not c fun d =>
 (o.guard d
 ((f3_j1 o K C a (.bool true) b))
 (o.hbuild 1 [.slice nilSl] [(0, 1)] [a] b fun e f =>
 o.call (C 5 [e] f) fun g h =>
 (f3_j1 o K C a g h))
 (none))
def f4_j1 (o : Ops) (K : Nat) (C : CallC) (a : SV) (b : Heap) : Rs :=
 o.rest a fun c =>
 some (c, b)
def f4 (o : Ops) (K : Nat) (C : CallC) (H : Heap) : Rs :=
 o.hbuild 1 [.int .i64 0, .int .i64 0] [(0, 1), (1, 1)] [(.int .i64 2), (.int .i64 1)] H fun m n =>
 o.hbuild 1 [.int .i64 0, .int .i64 0] [(0, 1), (1, 1)] [(.int .i64 1), (.int .i64 2)] n fun p q =>
 o.hbuild 1 [.slice nilSl, .slice nilSl] [(0, 1), (1, 1)] [m, p] q fun i r =>
 o.call (C 12 [i] r) fun j s =>
 o.ext 0 j fun d =>
 o.ext 1 j fun t =>
 o.call (C 6 [i] s) fun e u =>
 o.ext 0 e fun f =>
 o.ext 1 e fun v =>
 o.ext 2 e fun w =>
 o.bstore 0 1 (.box [.slice nilSl]) v fun x =>
 o.hbuild 1 [.int .i64 0, .int .i64 0] [(0, 1), (1, 1)] [(.int .i64 2), (.int .i64 0)] u fun y z =>
 o.hbuild 1 [.int .i64 0, .int .i64 0] [(0, 1), (1, 1)] [(.int .i64 0), (.int .i64 6)] z fun A B =>
 o.hbuild 1 [.slice nilSl, .slice nilSl] [(0, 1), (1, 1)] [y, A] B fun D E =>
 o.call (C 13 [D] E) fun k b =>
 o.ext 0 k fun g =>
 o.ext 1 k fun F =>
 o.eql t (.int .i64 0) fun G =>
 (o.guard G
 (o.eql w (.int .i64 0) fun I =>
 (o.guard I
 (o.eql F (.int .i64 0) fun J =>
 (o.guard J
 (o.len d fun L =>
 o.eql L (.int .i64 2) fun M =>
 (o.guard M
 (o.idx 1 d (.int .i64 0) fun N =>
 o.load 1 false N b fun P =>
 o.idx 3 P (.int .i64 0) fun Q =>
 o.load 3 true Q b fun S =>
 o.call (C 14 [S] b) fun T c =>
 o.eql T (.str [50, 47, 51]) fun U =>
 (o.guard U
 (o.idx 1 d (.int .i64 0) fun V =>
 o.load 1 false V c fun W =>
 o.idx 3 W (.int .i64 1) fun X =>
 o.load 3 true X c fun Y =>
 o.call (C 14 [Y] c) fun Z l =>
 o.eql Z (.str [45, 49, 47, 51]) fun aa =>
 (o.guard aa
 (o.lload 0 1 true (.box x) fun ab =>
 o.call (C 15 [ab] l) fun ac a =>
 o.eql ac (.str [51]) fun ad =>
 (o.guard ad
 (o.len f fun ae =>
 o.eql ae (.int .i64 2) fun af =>
 (o.guard af
 (o.idx 1 f (.int .i64 0) fun ag =>
 o.load 1 false ag a fun ah =>
 o.idx 1 ah (.int .i64 0) fun ai =>
 o.load 1 false ai a fun aj =>
 o.eql aj (.int .i64 2) fun ak =>
 (o.guard ak
 (o.idx 1 f (.int .i64 0) fun al =>
 o.load 1 false al a fun am =>
 o.idx 1 am (.int .i64 1) fun an =>
 o.load 1 false an a fun ap =>
 o.eql ap (.int .i64 (-1)) fun aq =>
 (o.guard aq
 (o.len g fun ar =>
 o.eql ar (.int .i64 2) fun as =>
 (o.guard as
 (o.idx 1 g (.int .i64 0) fun au =>
 o.load 1 true au a fun av =>
 o.call (C 15 [av] a) fun aw h =>
 o.eql aw (.str [50]) fun ax =>
 (o.guard ax
 (o.idx 1 g (.int .i64 1) fun ay =>
 o.load 1 true ay h fun az =>
 o.call (C 15 [az] h) fun aA aB =>
 o.eql aA (.str [54]) fun aD =>
 (f4_j1 o K C aD aB))
 ((f4_j1 o K C (.bool false) h))
 (none)))
 ((f4_j1 o K C (.bool false) a))
 (none)))
 ((f4_j1 o K C (.bool false) a))
 (none)))
 ((f4_j1 o K C (.bool false) a))
 (none)))
 ((f4_j1 o K C (.bool false) a))
 (none)))
 ((f4_j1 o K C (.bool false) a))
 (none)))
 ((f4_j1 o K C (.bool false) l))
 (none)))
 ((f4_j1 o K C (.bool false) c))
 (none)))
 ((f4_j1 o K C (.bool false) b))
 (none)))
 ((f4_j1 o K C (.bool false) b))
 (none)))
 ((f4_j1 o K C (.bool false) b))
 (none)))
 ((f4_j1 o K C (.bool false) b))
 (none))
def f5_l4 (o : Ops) (K : Nat) (C : CallC) (h : SV -> SV -> SV -> Heap -> Rs) : SV -> SV -> SV -> SV -> SV -> SV -> Heap -> (SV -> SV -> SV -> SV -> SV -> SV -> Heap -> Rs) -> Rs := fun b d e f g c a i =>
 o.lss c g fun j =>
 (o.cond j
 (o.idx 1 b d fun k =>
 o.load 1 false k a fun l =>
 o.idx 1 l c fun m =>
 o.load 1 false m a fun n =>
 o.len n fun p =>
 o.gtr p (.int .i64 100) fun q =>
 (o.cond q
 (some ((.bool true), a))
 (o.add c (.int .i64 1) fun r =>
 i b d e f g r a)))
 (o.add f (.int .i64 1) fun s =>
 h b e s a))
def f5_l1 (o : Ops) (K : Nat) (C : CallC) : SV -> SV -> SV -> Heap -> (SV -> SV -> SV -> Heap -> Rs) -> Rs := fun c d a b e =>
 o.lss a d fun f =>
 (o.cond f
 (o.idx 1 c a fun g =>
 o.load 1 false g b fun h =>
 o.len h fun i =>
 o.gtr i (.int .i64 100) fun j =>
 (o.cond j
 (some ((.bool true), b))
 (o.idx 1 c a fun k =>
 o.load 1 false k b fun l =>
 o.len l fun m =>
 (o.loop6 (f5_l4 o K C e) K c a d a m (.int .i64 0) b))))
 (some ((.bool false), b)))
def f5 (o : Ops) (K : Nat) (C : CallC) (a : SV) (H : Heap) : Rs :=
 o.len a fun b =>
 (o.loop3 (f5_l1 o K C) K a b (.int .i64 0) H)
def f6_j6 (o : Ops) (K : Nat) (C : CallC) (c : SV -> SV -> SV -> SV -> SV -> SV -> SV -> SV -> SV -> SV -> SV -> Heap -> Rs) (a d e f g h i j k l m n p : SV) (b : Heap) : Rs :=
 (o.cond p
 (o.build [.slice nilSl] [] [] fun q =>
 o.bstore 0 1 a q fun r =>
 o.resc 1 true (.box r) fun s =>
 some (.tuple [(.slice nilSl), s, (.int .i64 3)], b))
 (o.hbuild 1 [.int .i64 0] [(0, 1)] [j] b fun t u =>
 o.append 1 8 i t u fun v w =>
 o.add n (.int .i64 1) fun x =>
 c a d e f g h v k l m x w))
def f6_l4 (o : Ops) (K : Nat) (C : CallC) (s : SV -> SV -> SV -> SV -> SV -> SV -> SV -> Heap -> Rs) : SV -> SV -> SV -> SV -> SV -> SV -> SV -> SV -> SV -> SV -> SV -> Heap -> (SV -> SV -> SV -> SV -> SV -> SV -> SV -> SV -> SV -> SV -> SV -> Heap -> Rs) -> Rs := fun e a f b g h i j k l c m n =>
 o.lss c l fun t =>
 (o.cond t
 (o.idx 1 a h fun u =>
 o.load 1 false u m fun v =>
 o.idx 3 v c fun w =>
 o.load 3 true w m fun x =>
 o.lload 0 3 true b fun y =>
 o.call (C 19 [x, y] m) fun q z =>
 o.ext 0 q fun A =>
 o.ext 1 q fun T =>
 o.bstore 0 3 (.box [.bool false, .slice nilSl, .slice nilSl]) A fun B =>
 o.lload 0 3 true (.box B) fun D =>
 o.call (C 20 [D] z) fun E F =>
 o.call (C 21 [E] F) fun r p =>
 o.ext 0 r fun d =>
 o.ext 1 r fun G =>
 o.u_not G fun I =>
 (o.guard I
 ((f6_j6 o K C n e a f b g h i d j k l c (.bool true) p))
 (o.gtr d (.int .i64 16384) fun J =>
 (o.guard J
 ((f6_j6 o K C n e a f b g h i d j k l c (.bool true) p))
 (o.lss d (.int .i64 (-16384)) fun L =>
 (f6_j6 o K C n e a f b g h i d j k l c L p))
 (none)))
 (none)))
 (o.hbuild 1 [.slice nilSl] [(0, 1)] [i] m fun M N =>
 o.append 1 24 g M N fun P Q =>
 o.add k (.int .i64 1) fun S =>
 s e a f b P j S Q))
def f6_l2 (o : Ops) (K : Nat) (C : CallC) : SV -> SV -> SV -> SV -> SV -> SV -> SV -> Heap -> (SV -> SV -> SV -> SV -> SV -> SV -> SV -> Heap -> Rs) -> Rs := fun c d e h f g a b i =>
 o.lss a g fun j =>
 (o.cond j
 (o.idx 1 d a fun k =>
 o.load 1 false k b fun l =>
 o.len l fun m =>
 (o.loop11 (f6_l4 o K C i) K c d e h f a (.slice nilSl) g a m (.int .i64 0) b))
 (o.lload 0 1 true e fun n =>
 o.bstore 0 1 c n fun p =>
 o.rest f fun q =>
 o.resc 1 true (.box p) fun r =>
 some (.tuple [q, r, (.int .i64 0)], b)))
def f6 (o : Ops) (K : Nat) (C : CallC) (f : SV) (H : Heap) : Rs :=
 o.call (C 12 [f] H) fun b c =>
 o.ext 0 b fun a =>
 o.ext 1 b fun d =>
 o.neq d (.int .i64 0) fun g =>
 (o.cond g
 (o.build [.slice nilSl] [] [] fun h =>
 o.bstore 0 1 (.box [.slice nilSl]) h fun i =>
 o.resc 1 true (.box i) fun j =>
 o.rest d fun k =>
 some (.tuple [(.slice nilSl), j, k], c))
 (o.call (C 16 [a] c) fun l m =>
 o.bstore 0 1 (.box [.slice nilSl]) l fun e =>
 o.lload 0 1 true (.box e) fun n =>
 o.call (C 18 [(.bool false), n] m) fun p q =>
 o.call (C 17 [p] q) fun r s =>
 o.bstore 0 3 (.box [.bool false, .slice nilSl, .slice nilSl]) r fun t =>
 o.len a fun u =>
 (o.loop7 (f6_l2 o K C) K (.box [.slice nilSl]) a (.box e) (.box t) (.slice nilSl) u (.int .i64 0) s)))
def f7 (o : Ops) (K : Nat) (C : CallC) (b : SV) (H : Heap) : Rs :=
 o.bbox b fun a =>
 o.lfld 0 (.box a) fun c =>
 o.lloadp 1 false (.box a) c fun d =>
 o.len d fun e =>
 o.eql e (.int .i64 0) fun f =>
 (o.cond f
 (some ((.int .i64 0), H))
 (o.lfld 0 (.box a) fun g =>
 o.lloadp 1 false (.box a) g fun h =>
 o.len h fun i =>
 o.sub i (.int .i64 1) fun j =>
 o.mul (.int .i64 32) j fun k =>
 o.lfld 0 (.box a) fun l =>
 o.lloadp 1 false (.box a) l fun m =>
 o.lfld 0 (.box a) fun n =>
 o.lloadp 1 false (.box a) n fun p =>
 o.len p fun q =>
 o.sub q (.int .i64 1) fun r =>
 o.idx 1 m r fun s =>
 o.load 1 false s H fun t =>
 o.call (C 22 [t] H) fun u v =>
 o.add k u fun w =>
 o.rest w fun x =>
 some (x, v)))
def f8_j9 (o : Ops) (K : Nat) (C : CallC) (b : SV) (a : Heap) : Rs :=
 (o.cond b
 (some ((.int .i64 6), a))
 (some ((.int .i64 0), a)))
def f8_l3 (o : Ops) (K : Nat) (C : CallC) : SV -> SV -> SV -> SV -> Heap -> (SV -> SV -> SV -> SV -> Heap -> Rs) -> Rs := fun a f g c b h =>
 o.lss c g fun i =>
 (o.cond i
 (o.load 1 false a b fun j =>
 o.idx 1 j c fun k =>
 o.load 1 false k b fun l =>
 o.len l fun m =>
 o.neq m f fun n =>
 (o.cond n
 (some ((.int .i64 5), b))
 (o.add c (.int .i64 1) fun p =>
 h a f g p b)))
 (o.load 1 false a b fun q =>
 o.call (C 23 [q, (.fn 24 [] [])] b) fun r d =>
 o.u_not r fun s =>
 (o.cond s
 (some ((.int .i64 3), d))
 (o.load 1 false a d fun t =>
 o.mkfn 26 0 [a] fun u =>
 o.call (C 23 [t, u] d) fun v e =>
 o.u_not v fun w =>
 (o.guard w
 ((f8_j9 o K C (.bool true) e))
 (o.load 1 false a e fun x =>
 o.call (C 27 [x] e) fun y z =>
 o.u_not y fun A =>
 (f8_j9 o K C A z))
 (none))))))
def f8_j1 (o : Ops) (K : Nat) (C : CallC) (b c d : SV) (a : Heap) : Rs :=
 (o.cond d
 (some ((.int .i64 5), a))
 (o.load 1 false b a fun e =>
 o.len e fun f =>
 (o.loop4 (f8_l3 o K C) K b c f (.int .i64 0) a)))
def f8 (o : Ops) (K : Nat) (C : CallC) (d : SV) (H : Heap) : Rs :=
 o.box d H fun b c =>
 o.load 1 false b c fun e =>
 o.len e fun a =>
 o.lss a (.int .i64 1) fun f =>
 (o.guard f
 ((f8_j1 o K C b a (.bool true) c))
 (o.gtr a (.int .i64 8) fun g =>
 (f8_j1 o K C b a g c))
 (none))
def f9 (o : Ops) (K : Nat) (C : CallC) (e f : SV) (H : Heap) : Rs :=
 o.bbox e fun a =>
 o.bbox f fun b =>
 o.lload 0 1 true (.box a) fun g =>
 o.call (C 7 [g] H) fun h i =>
 o.lload 0 1 true (.box b) fun j =>
 o.call (C 7 [j] i) fun k c =>
 o.add h k fun l =>
 o.gtr l (.int .i64 4097) fun m =>
 (o.cond m
 (o.build [.slice nilSl] [] [] fun n =>
 o.bstore 0 1 (.box [.slice nilSl]) n fun p =>
 o.resc 1 true (.box p) fun q =>
 some (.tuple [q, (.int .i64 3)], c))
 (o.lload 0 1 true (.box a) fun r =>
 o.lload 0 1 true (.box b) fun s =>
 o.call (C 28 [r, s] c) fun t u =>
 o.call (C 29 [t] u) fun d v =>
 o.ext 0 d fun w =>
 o.ext 1 d fun x =>
 o.bstore 0 1 (.box [.slice nilSl]) w fun y =>
 o.resc 1 true (.box y) fun z =>
 o.rest x fun A =>
 some (.tuple [z, A], v)))
def f10 (o : Ops) (K : Nat) (C : CallC) (a : SV) (H : Heap) : Rs :=
 o.conv .u32 a fun b =>
 o.shr a (.int .u64 32) fun c =>
 o.conv .u32 c fun d =>
 o.hbuild 1 [.int .u32 0, .int .u32 0] [(0, 1), (1, 1)] [b, d] H fun e f =>
 o.call (C 30 [e] f) fun g h =>
 o.bstore 0 1 (.box [.slice nilSl]) g fun i =>
 o.resc 1 true (.box i) fun j =>
 some (j, h)
def f11_l3 (o : Ops) (K : Nat) (C : CallC) : SV -> SV -> SV -> Heap -> (SV -> SV -> SV -> Heap -> Rs) -> Rs := fun c d b a e =>
 o.geq b (.int .i64 0) fun f =>
 (o.cond f
 (o.lfld 0 c fun g =>
 o.lloadp 1 false c g fun h =>
 o.idx 1 h b fun i =>
 o.load 1 false i a fun j =>
 o.lfld 0 d fun k =>
 o.lloadp 1 false d k fun l =>
 o.idx 1 l b fun m =>
 o.load 1 false m a fun n =>
 o.lss j n fun p =>
 (o.cond p
 (some ((.int .i64 (-1)), a))
 (o.lfld 0 c fun q =>
 o.lloadp 1 false c q fun r =>
 o.idx 1 r b fun s =>
 o.load 1 false s a fun t =>
 o.lfld 0 d fun u =>
 o.lloadp 1 false d u fun v =>
 o.idx 1 v b fun w =>
 o.load 1 false w a fun x =>
 o.gtr t x fun y =>
 (o.cond y
 (some ((.int .i64 1), a))
 (o.sub b (.int .i64 1) fun z =>
 e c d z a)))))
 (some ((.int .i64 0), a)))
def f11 (o : Ops) (K : Nat) (C : CallC) (c d : SV) (H : Heap) : Rs :=
 o.bbox c fun a =>
 o.bbox d fun b =>
 o.lfld 0 (.box a) fun e =>
 o.lloadp 1 false (.box a) e fun f =>
 o.len f fun g =>
 o.lfld 0 (.box b) fun h =>
 o.lloadp 1 false (.box b) h fun i =>
 o.len i fun j =>
 o.neq g j fun k =>
 (o.cond k
 (o.lfld 0 (.box a) fun l =>
 o.lloadp 1 false (.box a) l fun m =>
 o.len m fun n =>
 o.lfld 0 (.box b) fun p =>
 o.lloadp 1 false (.box b) p fun q =>
 o.len q fun r =>
 o.lss n r fun s =>
 (o.cond s
 (some ((.int .i64 (-1)), H))
 (some ((.int .i64 1), H))))
 (o.lfld 0 (.box a) fun t =>
 o.lloadp 1 false (.box a) t fun u =>
 o.len u fun v =>
 o.sub v (.int .i64 1) fun w =>
 (o.loop3 (f11_l3 o K C) K (.box a) (.box b) w H)))
def f12_l4 (o : Ops) (K : Nat) (C : CallC) (m : SV -> SV -> SV -> SV -> SV -> SV -> Heap -> Rs) : SV -> SV -> SV -> SV -> SV -> SV -> SV -> SV -> SV -> SV -> Heap -> (SV -> SV -> SV -> SV -> SV -> SV -> SV -> SV -> SV -> SV -> Heap -> Rs) -> Rs := fun d a b e f g h i j c k n =>
 o.lss c j fun p =>
 (o.cond p
 (o.lload 0 1 true b fun q =>
 o.call (C 35 [q, f, c] k) fun r s =>
 o.lload 0 2 true a fun t =>
 o.call (C 34 [r, t] s) fun l u =>
 o.ext 0 l fun v =>
 o.ext 1 l fun L =>
 o.bstore 0 3 (.box [.bool false, .slice nilSl, .slice nilSl]) v fun w =>
 o.lload 0 3 true (.box w) fun x =>
 o.hbuild 3 [.bool false, .slice nilSl, .slice nilSl] [(0, 3)] [x] u fun y z =>
 o.append 3 56 g y z fun A B =>
 o.add c (.int .i64 1) fun D =>
 n d a b e f A h i j D B)
 (o.hbuild 1 [.slice nilSl] [(0, 1)] [g] k fun E F =>
 o.append 1 24 e E F fun G I =>
 o.add i (.int .i64 1) fun J =>
 m d a b G h J I))
def f12_l2 (o : Ops) (K : Nat) (C : CallC) : SV -> SV -> SV -> SV -> SV -> SV -> Heap -> (SV -> SV -> SV -> SV -> SV -> SV -> Heap -> Rs) -> Rs := fun b f g c d a e h =>
 o.lss a d fun i =>
 (o.cond i
 (o.len b fun j =>
 (o.loop10 (f12_l4 o K C h) K b f g c a (.slice nilSl) d a j (.int .i64 0) e))
 (o.rest c fun k =>
 some (.tuple [k, (.int .i64 0)], e)))
def f12 (o : Ops) (K : Nat) (C : CallC) (a : SV) (H : Heap) : Rs :=
 o.call (C 8 [a] H) fun b c =>
 o.neq b (.int .i64 0) fun h =>
 (o.cond h
 (o.rest b fun i =>
 some (.tuple [(.slice nilSl), i], c))
 (o.call (C 31 [a] c) fun d j =>
 o.ext 0 d fun k =>
 o.ext 1 d fun v =>
 o.bstore 0 1 (.box [.slice nilSl]) k fun e =>
 o.lload 0 1 true (.box e) fun l =>
 o.call (C 32 [l] j) fun f m =>
 o.ext 0 f fun n =>
 o.ext 1 f fun w =>
 o.bstore 0 2 (.box [.bool false, .slice nilSl]) n fun p =>
 o.lload 0 1 true (.box e) fun q =>
 o.call (C 33 [q] m) fun g r =>
 o.ext 0 g fun s =>
 o.ext 1 g fun x =>
 o.bstore 0 1 (.box [.slice nilSl]) s fun t =>
 o.len a fun u =>
 (o.loop6 (f12_l2 o K C) K a (.box p) (.box t) (.slice nilSl) u (.int .i64 0) r)))
def f13_j4 (o : Ops) (K : Nat) (C : CallC) (c : SV -> Heap -> Rs) (b d : SV) (a : Heap) : Rs :=
 (o.cond d
 (o.slice100 1 b (.int .i64 1) a fun e =>
 c e a)
 (o.append 1 24 (.slice nilSl) b a fun f g =>
 o.rest f fun h =>
 some (.tuple [h, (.int .i64 0)], g)))
def f13_l3 (o : Ops) (K : Nat) (C : CallC) : SV -> Heap -> (SV -> Heap -> Rs) -> Rs := fun a b c =>
 o.len a fun d =>
 o.gtr d (.int .i64 0) fun e =>
 (o.guard e
 (o.idx 1 a (.int .i64 0) fun f =>
 o.load 1 true f b fun g =>
 o.call (C 7 [g] b) fun h i =>
 o.eql h (.int .i64 1) fun j =>
 (f13_j4 o K C c a j i))
 ((f13_j4 o K C c a (.bool false) b))
 (none))
def f13 (o : Ops) (K : Nat) (C : CallC) (a : SV) (H : Heap) : Rs :=
 o.call (C 8 [a] H) fun b c =>
 o.neq b (.int .i64 0) fun h =>
 (o.cond h
 (o.rest b fun i =>
 some (.tuple [(.slice nilSl), i], c))
 (o.call (C 31 [a] c) fun d j =>
 o.ext 0 d fun k =>
 o.ext 1 d fun r =>
 o.bstore 0 1 (.box [.slice nilSl]) k fun l =>
 o.lload 0 1 true (.box l) fun m =>
 o.call (C 36 [m] j) fun e f =>
 o.ext 0 e fun n =>
 o.ext 1 e fun g =>
 o.neq g (.int .i64 0) fun p =>
 (o.cond p
 (o.rest g fun q =>
 some (.tuple [(.slice nilSl), q], f))
 ((o.loop1 (f13_l3 o K C) K n f)))))
def f14 (o : Ops) (K : Nat) (C : CallC) (c : SV) (H : Heap) : Rs :=
 o.bbox c fun a =>
 o.lfld 2 (.box a) fun d =>
 o.lloadp 1 true (.box a) d fun e =>
 o.call (C 7 [e] H) fun f b =>
 o.eql f (.int .i64 0) fun g =>
 (o.cond g
 (o.lfld 0 (.box a) fun h =>
 o.lloadp 2 true (.box a) h fun i =>
 o.call (C 37 [i] b) fun j k =>
 o.rest j fun l =>
 some (l, k))
 (o.lfld 0 (.box a) fun m =>
 o.lloadp 2 true (.box a) m fun n =>
 o.call (C 37 [n] b) fun p q =>
 o.add p (.str [47]) fun r =>
 o.lload 0 3 true (.box a) fun s =>
 o.call (C 38 [s] q) fun t u =>
 o.call (C 15 [t] u) fun v w =>
 o.add r v fun x =>
 o.rest x fun y =>
 some (y, w)))
def f15_j5 (o : Ops) (K : Nat) (C : CallC) (e : SV -> SV -> Heap -> Rs) (f : SV -> SV -> SV -> SV -> Heap -> Rs) (a b c g h : SV) (d : Heap) : Rs :=
 (o.cond h
 (o.rem c (.int .u32 10) fun i =>
 o.add (.int .u32 48) i fun j =>
 o.conv .u8 j fun k =>
 o.hbuild 1 [.int .u8 0] [(0, 1)] [k] d fun l m =>
 o.append 1 1 b l m fun n p =>
 o.quo c (.int .u32 10) fun q =>
 o.add g (.int .i64 1) fun r =>
 f a n q r p)
 (e a b d))
def f15_l4 (o : Ops) (K : Nat) (C : CallC) (d : SV -> SV -> Heap -> Rs) : SV -> SV -> SV -> SV -> Heap -> (SV -> SV -> SV -> SV -> Heap -> Rs) -> Rs := fun a e b c f g =>
 o.lss c (.int .i64 9) fun h =>
 (o.guard h
 (o.len a fun i =>
 o.gtr i (.int .i64 0) fun j =>
 (o.guard j
 ((f15_j5 o K C d g a e b c (.bool true) f))
 (o.gtr b (.int .u32 0) fun k =>
 (f15_j5 o K C d g a e b c k f))
 (none)))
 ((f15_j5 o K C d g a e b c (.bool false) f))
 (none))
def f15_l11 (o : Ops) (K : Nat) (C : CallC) : SV -> SV -> SV -> Heap -> (SV -> SV -> SV -> Heap -> Rs) -> Rs := fun a c d b e =>
 o.lss c d fun f =>
 (o.cond f
 (o.idx 1 a d fun g =>
 o.load 1 false g b fun h =>
 o.idx 1 a c fun i =>
 o.load 1 false i b fun j =>
 o.idx 1 a c fun k =>
 o.store 1 k h b fun l =>
 o.idx 1 a d fun m =>
 o.store 1 m j l fun n =>
 o.add c (.int .i64 1) fun p =>
 o.sub d (.int .i64 1) fun q =>
 e a p q n)
 (o.str a b fun r =>
 o.rest r fun s =>
 some (s, b)))
def f15_l2 (o : Ops) (K : Nat) (C : CallC) : SV -> SV -> Heap -> (SV -> SV -> Heap -> Rs) -> Rs := fun a b c d =>
 o.len a fun e =>
 o.gtr e (.int .i64 0) fun f =>
 (o.cond f
 (o.call (C 39 [a, (.int .u32 1000000000)] c) fun g h =>
 o.call (C 30 [a] h) fun i j =>
 o.fieldv 0 1 false i fun k =>
 (o.loop4 (f15_l4 o K C d) K k b g (.int .i64 0) j))
 (o.len b fun l =>
 o.sub l (.int .i64 1) fun m =>
 (o.loop3 (f15_l11 o K C) K b (.int .i64 0) m c)))
def f15 (o : Ops) (K : Nat) (C : CallC) (b : SV) (H : Heap) : Rs :=
 o.bbox b fun a =>
 o.lfld 0 (.box a) fun c =>
 o.lloadp 1 false (.box a) c fun d =>
 o.len d fun e =>
 o.eql e (.int .i64 0) fun f =>
 (o.cond f
 (some ((.str [48]), H))
 (o.lfld 0 (.box a) fun g =>
 o.lloadp 1 false (.box a) g fun h =>
 o.append 1 4 (.slice nilSl) h H fun i j =>
 (o.loop2 (f15_l2 o K C) K i (.slice nilSl) j)))
def f16_l3 (o : Ops) (K : Nat) (C : CallC) (m : SV -> SV -> SV -> SV -> SV -> Heap -> Rs) : SV -> SV -> SV -> SV -> SV -> SV -> SV -> SV -> Heap -> (SV -> SV -> SV -> SV -> SV -> SV -> SV -> SV -> Heap -> Rs) -> Rs := fun c f a g h i j d b n =>
 o.lss d j fun p =>
 (o.cond p
 (o.idx 1 c g fun q =>
 o.load 1 false q b fun r =>
 o.idx 3 r d fun s =>
 o.load 3 true s b fun t =>
 o.mkfn 38 1 [t] fun k =>
 o.callv C [k] b fun u v =>
 o.lload 0 1 true a fun w =>
 o.callv C [k] v fun x y =>
 o.call (C 41 [w, x] y) fun z A =>
 o.call (C 40 [u, z] A) fun e B =>
 o.ext 0 e fun D =>
 o.ext 1 e fun E =>
 o.ext 2 e fun Q =>
 o.bstore 0 1 (.box [.slice nilSl]) D fun F =>
 o.bstore 0 1 (.box [.slice nilSl]) E fun S =>
 o.lload 0 1 true a fun G =>
 o.lload 0 1 true (.box F) fun I =>
 o.call (C 9 [G, I] B) fun l J =>
 o.ext 0 l fun L =>
 o.ext 1 l fun T =>
 o.bstore 0 1 a L fun M =>
 o.add d (.int .i64 1) fun N =>
 n c f (.box M) g h i j N J)
 (o.add i (.int .i64 1) fun P =>
 m c f a h P b))
def f16_l1 (o : Ops) (K : Nat) (C : CallC) : SV -> SV -> SV -> SV -> SV -> Heap -> (SV -> SV -> SV -> SV -> SV -> Heap -> Rs) -> Rs := fun c d e f a b g =>
 o.lss a f fun h =>
 (o.cond h
 (o.idx 1 c a fun i =>
 o.load 1 false i b fun j =>
 o.len j fun k =>
 (o.loop8 (f16_l3 o K C g) K c d e a f a k (.int .i64 0) b))
 (o.lload 0 1 true e fun l =>
 o.bstore 0 1 d l fun m =>
 o.resc 1 true (.box m) fun n =>
 some (n, b)))
def f16 (o : Ops) (K : Nat) (C : CallC) (a : SV) (H : Heap) : Rs :=
 o.call (C 10 [(.int .u64 1)] H) fun b c =>
 o.bstore 0 1 (.box [.slice nilSl]) b fun d =>
 o.len a fun e =>
 (o.loop5 (f16_l1 o K C) K a (.box [.slice nilSl]) (.box d) e (.int .i64 0) c)
def f17 (o : Ops) (K : Nat) (C : CallC) (a : SV) (H : Heap) : Rs :=
 o.bbox a fun b =>
 o.lload 0 2 true (.box b) fun c =>
 o.build [.bool false, .slice nilSl, .slice nilSl] [(0, 2)] [c] fun d =>
 o.bstore 0 3 (.box [.bool false, .slice nilSl, .slice nilSl]) d fun e =>
 o.resc 3 true (.box e) fun f =>
 some (f, H)
def f18_j1 (o : Ops) (K : Nat) (C : CallC) (a : SV) (b : Heap) : Rs :=
 o.resc 2 true a fun c =>
 some (c, b)
def f18 (o : Ops) (K : Nat) (C : CallC) (b c : SV) (H : Heap) : Rs :=
 o.bbox c fun a =>
 (o.guard b
 (o.lload 0 1 true (.box a) fun d =>
 o.call (C 7 [d] H) fun e f =>
 o.gtr e (.int .i64 0) fun g =>
 o.lload 0 1 true (.box a) fun h =>
 o.build [.bool false, .slice nilSl] [(0, 1), (1, 1)] [g, h] fun i =>
 o.bstore 0 2 (.box [.bool false, .slice nilSl]) i fun j =>
 (f18_j1 o K C (.box j) f))
 (o.lload 0 1 true (.box a) fun k =>
 o.build [.bool false, .slice nilSl] [(0, 1), (1, 1)] [(.bool false), k] fun l =>
 o.bstore 0 2 (.box [.bool false, .slice nilSl]) l fun m =>
 (f18_j1 o K C (.box m) H))
 (none))
def f19 (o : Ops) (K : Nat) (C : CallC) (c d : SV) (H : Heap) : Rs :=
 o.bbox c fun e =>
 o.bbox d fun a =>
 o.lload 0 3 true (.box e) fun f =>
 o.lfld 0 (.box a) fun g =>
 o.lloadp 2 true (.box a) g fun h =>
 o.lload 0 3 true (.box a) fun i =>
 o.call (C 38 [i] H) fun j k =>
 o.call (C 42 [f, h, j] k) fun b l =>
 o.ext 0 b fun m =>
 o.ext 1 b fun n =>
 o.bstore 0 3 (.box [.bool false, .slice nilSl, .slice nilSl]) m fun p =>
 o.resc 3 true (.box p) fun q =>
 o.rest n fun r =>
 some (.tuple [q, r], l)
def f20 (o : Ops) (K : Nat) (C : CallC) (b : SV) (H : Heap) : Rs :=
 o.bbox b fun a =>
 o.lfld 0 (.box a) fun c =>
 o.lloadp 2 true (.box a) c fun d =>
 o.bstore 0 2 (.box [.bool false, .slice nilSl]) d fun e =>
 o.resc 2 true (.box e) fun f =>
 some (f, H)
def f21_j1 (o : Ops) (K : Nat) (C : CallC) (b c d : SV) (a : Heap) : Rs :=
 (o.cond d
 (some (.tuple [(.int .i64 0), (.bool false)], a))
 (o.lfld 0 b fun e =>
 o.lloadp 1 false b e fun f =>
 (o.cond f
 (o.u_neg c fun g =>
 o.conv .i64 g fun h =>
 o.rest h fun i =>
 some (.tuple [i, (.bool true)], a))
 (o.conv .i64 c fun j =>
 o.rest j fun k =>
 some (.tuple [k, (.bool true)], a)))))
def f21 (o : Ops) (K : Nat) (C : CallC) (e : SV) (H : Heap) : Rs :=
 o.bbox e fun a =>
 o.lfld 1 (.box a) fun f =>
 o.lloadp 1 true (.box a) f fun g =>
 o.call (C 43 [g] H) fun d c =>
 o.ext 0 d fun b =>
 o.ext 1 d fun h =>
 o.u_not h fun i =>
 (o.guard i
 ((f21_j1 o K C (.box a) b (.bool true) c))
 (o.gtr b (.int .u64 9223372036854775808) fun j =>
 (o.guard j
 ((f21_j1 o K C (.box a) b (.bool true) c))
 (o.eql b (.int .u64 9223372036854775808) fun k =>
 (o.guard k
 (o.lfld 0 (.box a) fun l =>
 o.lloadp 1 false (.box a) l fun m =>
 o.u_not m fun n =>
 (f21_j1 o K C (.box a) b n c))
 ((f21_j1 o K C (.box a) b (.bool false) c))
 (none)))
 (none)))
 (none))
def f22_j2 (o : Ops) (K : Nat) (C : CallC) (a b : SV) (c : Heap) : Rs :=
 o.conv .u8 a fun d =>
 o.stridx (.str [0, 1, 2, 2, 3, 3, 3, 3, 4, 4, 4, 4, 4, 4, 4, 4, 5, 5, 5, 5, 5, 5, 5, 5, 5, 5, 5, 5, 5, 5, 5, 5, 6, 6, 6, 6, 6, 6, 6, 6, 6, 6, 6, 6, 6, 6, 6, 6, 6, 6, 6, 6, 6, 6, 6, 6, 6, 6, 6, 6, 6, 6, 6, 6, 7, 7, 7, 7, 7, 7, 7, 7, 7, 7, 7, 7, 7, 7, 7, 7, 7, 7, 7, 7, 7, 7, 7, 7, 7, 7, 7, 7, 7, 7, 7, 7, 7, 7, 7, 7, 7, 7, 7, 7, 7, 7, 7, 7, 7, 7, 7, 7, 7, 7, 7, 7, 7, 7, 7, 7, 7, 7, 7, 7, 7, 7, 7, 7, 8, 8, 8, 8, 8, 8, 8, 8, 8, 8, 8, 8, 8, 8, 8, 8, 8, 8, 8, 8, 8, 8, 8, 8, 8, 8, 8, 8, 8, 8, 8, 8, 8, 8, 8, 8, 8, 8, 8, 8, 8, 8, 8, 8, 8, 8, 8, 8, 8, 8, 8, 8, 8, 8, 8, 8, 8, 8, 8, 8, 8, 8, 8, 8, 8, 8, 8, 8, 8, 8, 8, 8, 8, 8, 8, 8, 8, 8, 8, 8, 8, 8, 8, 8, 8, 8, 8, 8, 8, 8, 8, 8, 8, 8, 8, 8, 8, 8, 8, 8, 8, 8, 8, 8, 8, 8, 8, 8, 8, 8, 8, 8, 8, 8, 8, 8, 8, 8, 8, 8, 8, 8, 8, 8, 8, 8, 8, 8]) d fun e =>
 o.conv .i64 e fun f =>
 o.add b f fun g =>
 o.rest g fun h =>
 some (h, c)
def f22_j1 (o : Ops) (K : Nat) (C : CallC) (a b : SV) (c : Heap) : Rs :=
 o.geq a (.int .u32 256) fun d =>
 (o.cond d
 (o.shr a (.int .u64 8) fun e =>
 o.add b (.int .i64 8) fun f =>
 (f22_j2 o K C e f c))
 ((f22_j2 o K C a b c)))
def f22 (o : Ops) (K : Nat) (C : CallC) (a : SV) (H : Heap) : Rs :=
 o.geq a (.int .u32 65536) fun b =>
 (o.cond b
 (o.shr a (.int .u64 16) fun c =>
 (f22_j1 o K C c (.int .i64 16) H))
 ((f22_j1 o K C a (.int .i64 0) H)))
def f23_l3 (o : Ops) (K : Nat) (C : CallC) (k : SV -> SV -> SV -> SV -> Heap -> Rs) : SV -> SV -> SV -> SV -> SV -> SV -> SV -> SV -> Heap -> (SV -> SV -> SV -> SV -> SV -> SV -> SV -> SV -> Heap -> Rs) -> Rs := fun d b e f g h i a c l =>
 o.lss a i fun m =>
 (o.cond m
 (o.idx 1 h a fun n =>
 o.load 1 false n c fun p =>
 o.callv C [b, e, a, p] c fun q j =>
 o.u_not q fun r =>
 (o.cond r
 (some ((.bool false), j))
 (o.add a (.int .i64 1) fun s =>
 l d b e f g h i s j)))
 (o.add g (.int .i64 1) fun t =>
 k d b f t c))
def f23_l1 (o : Ops) (K : Nat) (C : CallC) : SV -> SV -> SV -> SV -> Heap -> (SV -> SV -> SV -> SV -> Heap -> Rs) -> Rs := fun c f d a b g =>
 o.lss a d fun h =>
 (o.cond h
 (o.idx 1 c a fun i =>
 o.load 1 false i b fun e =>
 o.len e fun j =>
 (o.loop8 (f23_l3 o K C g) K c f a d a e j (.int .i64 0) b))
 (some ((.bool true), b)))
def f23 (o : Ops) (K : Nat) (C : CallC) (a b : SV) (H : Heap) : Rs :=
 o.len a fun c =>
 (o.loop4 (f23_l1 o K C) K a b c (.int .i64 0) H)
def f24 (o : Ops) (K : Nat) (C : CallC) (e f a : SV) (H : Heap) : Rs :=
 o.call (C 25 [a] H) fun b c =>
 o.rest b fun d =>
 some (d, c)
def f25_j1 (o : Ops) (K : Nat) (C : CallC) (a : SV) (b : Heap) : Rs :=
 o.rest a fun c =>
 some (c, b)
def f25 (o : Ops) (K : Nat) (C : CallC) (a : SV) (H : Heap) : Rs :=
 o.geq a (.int .i64 (-16384)) fun b =>
 (o.guard b
 (o.leq a (.int .i64 16384) fun c =>
 (f25_j1 o K C c H))
 ((f25_j1 o K C (.bool false) H))
 (none))
def f26 (o : Ops) (K : Nat) (C : CallC) (a b c d : SV) (H : Heap) : Rs :=
 o.load 1 false d H fun e =>
 o.idx 1 e b fun f =>
 o.load 1 false f H fun g =>
 o.idx 1 g a fun h =>
 o.load 1 false h H fun i =>
 o.eql c i fun j =>
 o.rest j fun k =>
 some (k, H)
def f27_l6 (o : Ops) (K : Nat) (C : CallC) (s : SV -> SV -> SV -> SV -> SV -> SV -> SV -> Heap -> Rs) : SV -> SV -> SV -> SV -> SV -> SV -> SV -> SV -> Heap -> (SV -> SV -> SV -> SV -> SV -> SV -> SV -> SV -> Heap -> Rs) -> Rs := fun g a h b d e j k c t =>
 o.lss e g fun u =>
 (o.cond u
 (o.idx 1 a b fun v =>
 o.load 1 false v c fun w =>
 o.idx 2 w b fun x =>
 o.load 2 true x c fun y =>
 o.idx 1 a d fun z =>
 o.load 1 false z c fun A =>
 o.idx 2 A e fun B =>
 o.load 2 true B c fun D =>
 o.call (C 48 [y, D] c) fun l f =>
 o.ext 0 l fun E =>
 o.ext 1 l fun ah =>
 o.bstore 0 2 (.box [.bool false, .slice nilSl]) E fun F =>
 o.idx 1 a d fun G =>
 o.load 1 false G f fun I =>
 o.idx 2 I b fun J =>
 o.load 2 true J f fun L =>
 o.idx 1 a b fun M =>
 o.load 1 false M f fun N =>
 o.idx 2 N e fun P =>
 o.load 2 true P f fun Q =>
 o.call (C 48 [L, Q] f) fun m S =>
 o.ext 0 m fun T =>
 o.ext 1 m fun ai =>
 o.bstore 0 2 (.box [.bool false, .slice nilSl]) T fun U =>
 o.lload 0 2 true (.box F) fun V =>
 o.lload 0 2 true (.box U) fun W =>
 o.call (C 49 [V, W] S) fun n i =>
 o.ext 0 n fun X =>
 o.ext 1 n fun aj =>
 o.bstore 0 2 (.box [.bool false, .slice nilSl]) X fun Y =>
 o.idx 1 a d fun p =>
 o.load 1 false p i fun Z =>
 o.lload 0 2 true (.box Y) fun aa =>
 o.lload 0 2 true h fun ab =>
 o.call (C 50 [aa, ab] i) fun q r =>
 o.ext 0 q fun ac =>
 o.ext 1 q fun ak =>
 o.idx 2 Z e fun ad =>
 o.store 2 ad ac r fun ae =>
 (o.same p i r (o.add e (.int .i64 1) fun af =>
 t g a h b d af j k ae)))
 (o.add d (.int .i64 1) fun ag =>
 s g a h b ag j k c))
def f27_l4 (o : Ops) (K : Nat) (C : CallC) (i : SV -> SV -> SV -> SV -> SV -> Heap -> Rs) : SV -> SV -> SV -> SV -> SV -> SV -> SV -> Heap -> (SV -> SV -> SV -> SV -> SV -> SV -> SV -> Heap -> Rs) -> Rs := fun c d e a f g h b j =>
 o.lss f c fun k =>
 (o.cond k
 (o.add a (.int .i64 1) fun l =>
 (o.loop8 (f27_l6 o K C j) K c d e a f l g h b))
 (o.idx 1 d a fun m =>
 o.load 1 false m b fun n =>
 o.idx 2 n a fun p =>
 o.load 2 true p b fun q =>
 o.bstore 0 2 e q fun r =>
 o.add h (.int .i64 1) fun s =>
 i c d (.box r) g s b))
def f27_l1 (o : Ops) (K : Nat) (C : CallC) : SV -> SV -> SV -> SV -> SV -> Heap -> (SV -> SV -> SV -> SV -> SV -> Heap -> Rs) -> Rs := fun f c g d a b h =>
 o.lss a d fun i =>
 (o.cond i
 (o.idx 1 c a fun j =>
 o.load 1 false j b fun k =>
 o.idx 2 k a fun l =>
 o.load 2 true l b fun m =>
 o.call (C 47 [m] b) fun n e =>
 o.leq n (.int .i64 0) fun p =>
 (o.cond p
 (some ((.bool false), e))
 (o.add a (.int .i64 1) fun q =>
 (o.loop7 (f27_l4 o K C h) K f c g a q d a e))))
 (some ((.bool true), b)))
def f27 (o : Ops) (K : Nat) (C : CallC) (d : SV) (H : Heap) : Rs :=
 o.box d H fun b c =>
 o.load 1 false b c fun e =>
 o.len e fun a =>
 o.mkfn 45 0 [b] fun f =>
 o.call (C 44 [a, f] c) fun g h =>
 o.call (C 46 [(.int .i64 1)] h) fun i j =>
 o.bstore 0 2 (.box [.bool false, .slice nilSl]) i fun k =>
 (o.loop5 (f27_l1 o K C) K a g (.box k) a (.int .i64 0) j)
def f28_l3 (o : Ops) (K : Nat) (C : CallC) (p : SV -> SV -> SV -> SV -> SV -> SV -> Heap -> Rs) : SV -> SV -> SV -> SV -> SV -> SV -> SV -> SV -> SV -> SV -> SV -> SV -> Heap -> (SV -> SV -> SV -> SV -> SV -> SV -> SV -> SV -> SV -> SV -> SV -> SV -> Heap -> Rs) -> Rs := fun c f a d g h i j k l m b e q =>
 o.lss b m fun r =>
 (o.cond r
 (o.idx 1 l b fun s =>
 o.load 1 false s e fun t =>
 o.conv .u64 g fun u =>
 o.conv .u64 t fun v =>
 o.mul u v fun w =>
 o.add d b fun x =>
 o.idx 1 a x fun y =>
 o.load 1 false y e fun z =>
 o.conv .u64 z fun A =>
 o.add w A fun B =>
 o.add h B fun n =>
 o.add d b fun D =>
 o.conv .u32 n fun E =>
 o.idx 1 a D fun F =>
 o.store 1 F E e fun G =>
 o.shr n (.int .u64 32) fun I =>
 o.add b (.int .i64 1) fun J =>
 q c f a d g I i j k l m J G)
 (o.lfld 0 c fun L =>
 o.lloadp 1 false c L fun M =>
 o.len M fun N =>
 o.add d N fun P =>
 o.conv .u32 h fun Q =>
 o.idx 1 a P fun S =>
 o.store 1 S Q e fun T =>
 o.add k (.int .i64 1) fun U =>
 p c f a i j U T))
def f28_l1 (o : Ops) (K : Nat) (C : CallC) : SV -> SV -> SV -> SV -> SV -> SV -> Heap -> (SV -> SV -> SV -> SV -> SV -> SV -> Heap -> Rs) -> Rs := fun b d e f g a c i =>
 o.lss a g fun j =>
 (o.cond j
 (o.idx 1 f a fun k =>
 o.load 1 false k c fun l =>
 o.lfld 0 b fun m =>
 o.lloadp 1 false b m fun h =>
 o.len h fun n =>
 (o.loop12 (f28_l3 o K C i) K b d e a l (.int .u64 0) f g a h n (.int .i64 0) c))
 (o.call (C 30 [e] c) fun p q =>
 o.bstore 0 1 d p fun r =>
 o.resc 1 true (.box r) fun s =>
 some (s, q)))
def f28 (o : Ops) (K : Nat) (C : CallC) (e f : SV) (H : Heap) : Rs :=
 o.bbox e fun a =>
 o.bbox f fun b =>
 o.lfld 0 (.box a) fun g =>
 o.lloadp 1 false (.box a) g fun h =>
 o.len h fun i =>
 o.lfld 0 (.box b) fun j =>
 o.lloadp 1 false (.box b) j fun k =>
 o.len k fun l =>
 o.add i l fun c =>
 o.make 1 4 [.int .u32 0] c c H fun m n =>
 o.lfld 0 (.box a) fun p =>
 o.lloadp 1 false (.box a) p fun d =>
 o.len d fun q =>
 (o.loop6 (f28_l1 o K C) K (.box b) (.box [.slice nilSl]) m d q (.int .i64 0) n)
def f29 (o : Ops) (K : Nat) (C : CallC) (c : SV) (H : Heap) : Rs :=
 o.bbox c fun a =>
 o.lload 0 1 true (.box a) fun d =>
 o.call (C 7 [d] H) fun e b =>
 o.gtr e (.int .i64 4096) fun f =>
 (o.cond f
 (o.build [.slice nilSl] [] [] fun g =>
 o.bstore 0 1 (.box [.slice nilSl]) g fun h =>
 o.resc 1 true (.box h) fun i =>
 some (.tuple [i, (.int .i64 3)], b))
 (o.lload 0 1 true (.box a) fun j =>
 o.bstore 0 1 (.box [.slice nilSl]) j fun k =>
 o.resc 1 true (.box k) fun l =>
 some (.tuple [l, (.int .i64 0)], b)))
def f30_j2 (o : Ops) (K : Nat) (C : CallC) (e : SV -> SV -> SV -> Heap -> Rs) (c d a f : SV) (b : Heap) : Rs :=
 (o.cond f
 (o.sub a (.int .i64 1) fun g =>
 e c d g b)
 (o.slice011 1 c a a b fun h =>
 o.build [.slice nilSl] [(0, 1)] [h] fun i =>
 o.bstore 0 1 d i fun j =>
 o.resc 1 true (.box j) fun k =>
 some (k, b)))
def f30_l1 (o : Ops) (K : Nat) (C : CallC) : SV -> SV -> SV -> Heap -> (SV -> SV -> SV -> Heap -> Rs) -> Rs := fun b d a c e =>
 o.gtr a (.int .i64 0) fun f =>
 (o.guard f
 (o.sub a (.int .i64 1) fun g =>
 o.idx 1 b g fun h =>
 o.load 1 false h c fun i =>
 o.eql i (.int .u32 0) fun j =>
 (f30_j2 o K C e b d a j c))
 ((f30_j2 o K C e b d a (.bool false) c))
 (none))
def f30 (o : Ops) (K : Nat) (C : CallC) (a : SV) (H : Heap) : Rs :=
 o.len a fun b =>
 (o.loop3 (f30_l1 o K C) K a (.box [.slice nilSl]) b H)
def f31 (o : Ops) (K : Nat) (C : CallC) (d : SV) (H : Heap) : Rs :=
 o.box d H fun b c =>
 o.load 1 false b c fun e =>
 o.call (C 52 [e] c) fun f g =>
 o.call (C 51 [f] g) fun h a =>
 o.u_not h fun i =>
 (o.cond i
 (o.build [.slice nilSl] [] [] fun j =>
 o.bstore 0 1 (.box [.slice nilSl]) j fun k =>
 o.resc 1 true (.box k) fun l =>
 some (.tuple [l, (.int .i64 5)], a))
 (o.load 1 false b a fun m =>
 o.len m fun n =>
 o.eql n (.int .i64 0) fun p =>
 (o.cond p
 (o.build [.slice nilSl] [] [] fun q =>
 o.bstore 0 1 (.box [.slice nilSl]) q fun r =>
 o.resc 1 true (.box r) fun s =>
 some (.tuple [s, (.int .i64 0)], a))
 (o.load 1 false b a fun t =>
 o.len t fun u =>
 o.load 1 false b a fun v =>
 o.idx 1 v (.int .i64 0) fun w =>
 o.load 1 false w a fun x =>
 o.len x fun y =>
 o.mkfn 54 0 [b] fun z =>
 o.call (C 53 [u, y, z] a) fun A B =>
 o.bstore 0 1 (.box [.slice nilSl]) A fun D =>
 o.resc 1 true (.box D) fun E =>
 some (.tuple [E, (.int .i64 0)], B)))))
def f32 (o : Ops) (K : Nat) (C : CallC) (e : SV) (H : Heap) : Rs :=
 o.bbox e fun a =>
 o.lload 0 1 true (.box a) fun f =>
 o.call (C 55 [f] H) fun b c =>
 o.neq b (.int .i64 0) fun g =>
 (o.cond g
 (o.build [.bool false, .slice nilSl] [] [] fun h =>
 o.bstore 0 2 (.box [.bool false, .slice nilSl]) h fun i =>
 o.resc 2 true (.box i) fun j =>
 o.rest b fun k =>
 some (.tuple [j, k], c))
 (o.lload 0 1 true (.box a) fun l =>
 o.call (C 56 [l] c) fun d m =>
 o.ext 0 d fun t =>
 o.ext 1 d fun n =>
 o.bstore 0 2 (.box [.bool false, .slice nilSl]) n fun p =>
 o.lload 0 2 true (.box p) fun q =>
 o.bstore 0 2 (.box [.bool false, .slice nilSl]) q fun r =>
 o.resc 2 true (.box r) fun s =>
 some (.tuple [s, (.int .i64 0)], m)))
def f33 (o : Ops) (K : Nat) (C : CallC) (i : SV) (H : Heap) : Rs :=
 o.box i H fun b e =>
 o.load 1 true b e fun j =>
 o.call (C 55 [j] e) fun f c =>
 o.neq f (.int .i64 0) fun k =>
 (o.cond k
 (o.build [.slice nilSl] [] [] fun l =>
 o.bstore 0 1 (.box [.slice nilSl]) l fun m =>
 o.resc 1 true (.box m) fun n =>
 o.rest f fun p =>
 some (.tuple [n, p], c))
 (o.load 1 true b c fun q =>
 o.call (C 57 [q] c) fun g r =>
 o.ext 0 g fun s =>
 o.ext 1 g fun E =>
 o.alloc [.int .i64 0] r fun a t =>
 o.store 1 a s t fun u =>
 o.alloc [.nilf] u fun h v =>
 o.store 1 h (.fn 58 [] []) v fun d =>
 o.load 1 false a d fun w =>
 o.load 1 false a d fun x =>
 o.mkfn 59 0 [a, b, h] fun y =>
 o.call (C 53 [w, x, y] d) fun z A =>
 o.bstore 0 1 (.box [.slice nilSl]) z fun B =>
 o.resc 1 true (.box B) fun D =>
 some (.tuple [D, (.int .i64 0)], A)))
def f34_j2 (o : Ops) (K : Nat) (C : CallC) (a b c : SV) (d : Heap) : Rs :=
 o.lload 0 2 true a fun e =>
 o.lload 0 2 true b fun f =>
 o.call (C 63 [f] d) fun g h =>
 o.call (C 62 [e, g] h) fun i j =>
 o.bstore 0 3 c i fun k =>
 o.resc 3 true (.box k) fun l =>
 some (.tuple [l, (.int .i64 0)], j)
def f34 (o : Ops) (K : Nat) (C : CallC) (e f : SV) (H : Heap) : Rs :=
 o.bbox e fun b =>
 o.bbox f fun a =>
 o.lload 0 2 true (.box a) fun g =>
 o.call (C 47 [g] H) fun h c =>
 o.eql h (.int .i64 0) fun i =>
 (o.cond i
 (o.build [.bool false, .slice nilSl, .slice nilSl] [] [] fun j =>
 o.bstore 0 3 (.box [.bool false, .slice nilSl, .slice nilSl]) j fun k =>
 o.resc 3 true (.box k) fun l =>
 some (.tuple [l, (.int .i64 11)], c))
 (o.lload 0 2 true (.box a) fun m =>
 o.call (C 47 [m] c) fun n d =>
 o.lss n (.int .i64 0) fun p =>
 (o.cond p
 (o.lload 0 2 true (.box b) fun q =>
 o.call (C 61 [q] d) fun r s =>
 o.bstore 0 2 (.box b) r fun t =>
 (f34_j2 o K C (.box t) (.box a) (.box [.bool false, .slice nilSl, .slice nilSl]) s))
 ((f34_j2 o K C (.box b) (.box a) (.box [.bool false, .slice nilSl, .slice nilSl]) d)))))
def f35_j1 (o : Ops) (K : Nat) (C : CallC) (d e b c f : SV) (a : Heap) : Rs :=
 (o.cond f
 (o.build [.bool false, .slice nilSl] [] [] fun g =>
 o.bstore 0 2 c g fun h =>
 o.resc 2 true (.box h) fun i =>
 some (i, a))
 (o.lfld 0 b fun j =>
 o.lloadp 1 false b j fun k =>
 o.idx 1 k d fun l =>
 o.load 1 false l a fun m =>
 o.idx 2 m e fun n =>
 o.load 2 true n a fun p =>
 o.bstore 0 2 c p fun q =>
 o.resc 2 true (.box q) fun r =>
 some (r, a)))
def f35 (o : Ops) (K : Nat) (C : CallC) (f a b : SV) (H : Heap) : Rs :=
 o.bbox f fun c =>
 o.lload 0 1 true (.box c) fun g =>
 o.call (C 57 [g] H) fun e d =>
 o.ext 0 e fun h =>
 o.ext 1 e fun i =>
 o.lss a (.int .i64 0) fun j =>
 (o.guard j
 ((f35_j1 o K C a b (.box c) (.box [.bool false, .slice nilSl]) (.bool true) d))
 (o.geq a h fun k =>
 (o.guard k
 ((f35_j1 o K C a b (.box c) (.box [.bool false, .slice nilSl]) (.bool true) d))
 (o.lss b (.int .i64 0) fun l =>
 (o.guard l
 ((f35_j1 o K C a b (.box c) (.box [.bool false, .slice nilSl]) (.bool true) d))
 (o.geq b i fun m =>
 (f35_j1 o K C a b (.box c) (.box [.bool false, .slice nilSl]) m d))
 (none)))
 (none)))
 (none))
def f36 (o : Ops) (K : Nat) (C : CallC) (b : SV) (H : Heap) : Rs :=
 o.bbox b fun c =>
 o.lload 0 1 true (.box c) fun d =>
 o.call (C 64 [d, (.fn 65 [] [])] H) fun a e =>
 o.ext 0 a fun f =>
 o.ext 1 a fun g =>
 o.rest f fun h =>
 o.rest g fun i =>
 some (.tuple [h, i], e)
def f37 (o : Ops) (K : Nat) (C : CallC) (b : SV) (H : Heap) : Rs :=
 o.bbox b fun a =>
 o.lfld 0 (.box a) fun c =>
 o.lloadp 1 false (.box a) c fun d =>
 (o.cond d
 (o.lfld 1 (.box a) fun e =>
 o.lloadp 1 true (.box a) e fun f =>
 o.call (C 15 [f] H) fun g h =>
 o.add (.str [45]) g fun i =>
 o.rest i fun j =>
 some (j, h))
 (o.lfld 1 (.box a) fun k =>
 o.lloadp 1 true (.box a) k fun l =>
 o.call (C 15 [l] H) fun m n =>
 o.rest m fun p =>
 some (p, n)))
def f38 (o : Ops) (K : Nat) (C : CallC) (d : SV) (H : Heap) : Rs :=
 o.bbox d fun a =>
 o.lfld 2 (.box a) fun e =>
 o.lloadp 1 true (.box a) e fun f =>
 o.call (C 68 [] H) fun g h =>
 o.call (C 67 [f, g] h) fun b c =>
 o.ext 0 b fun i =>
 o.ext 1 b fun j =>
 o.bstore 0 1 (.box [.slice nilSl]) i fun k =>
 o.neq j (.int .i64 0) fun l =>
 (o.cond l
 (o.lfld 2 (.box a) fun m =>
 o.lloadp 1 true (.box a) m fun n =>
 o.bstore 0 1 (.box [.slice nilSl]) n fun p =>
 o.resc 1 true (.box p) fun q =>
 some (q, c))
 (o.lload 0 1 true (.box k) fun r =>
 o.bstore 0 1 (.box [.slice nilSl]) r fun s =>
 o.resc 1 true (.box s) fun t =>
 some (t, c)))
def f39_l1 (o : Ops) (K : Nat) (C : CallC) : SV -> SV -> SV -> SV -> Heap -> (SV -> SV -> SV -> SV -> Heap -> Rs) -> Rs := fun b c e a d g =>
 o.geq a (.int .i64 0) fun h =>
 (o.cond h
 (o.shl e (.int .u64 32) fun i =>
 o.idx 1 b a fun j =>
 o.load 1 false j d fun k =>
 o.conv .u64 k fun l =>
 o.or i l fun f =>
 o.conv .u64 c fun m =>
 o.quo f m fun n =>
 o.conv .u32 n fun p =>
 o.conv .u64 c fun q =>
 o.rem f q fun r =>
 o.idx 1 b a fun s =>
 o.store 1 s p d fun t =>
 o.sub a (.int .i64 1) fun u =>
 g b c r u t)
 (o.conv .u32 e fun v =>
 o.rest v fun w =>
 some (w, d)))
def f39 (o : Ops) (K : Nat) (C : CallC) (a b : SV) (H : Heap) : Rs :=
 o.len a fun c =>
 o.sub c (.int .i64 1) fun d =>
 (o.loop4 (f39_l1 o K C) K a b (.int .u64 0) d H)
def f40 (o : Ops) (K : Nat) (C : CallC) (i j : SV) (H : Heap) : Rs :=
 o.bbox i fun b =>
 o.bbox j fun a =>
 o.lfld 0 (.box a) fun k =>
 o.lloadp 1 false (.box a) k fun l =>
 o.len l fun m =>
 o.eql m (.int .i64 0) fun n =>
 (o.cond n
 (o.build [.slice nilSl] [] [] fun p =>
 o.build [.slice nilSl] [] [] fun q =>
 o.bstore 0 1 (.box [.slice nilSl]) p fun r =>
 o.bstore 0 1 (.box [.slice nilSl]) q fun s =>
 o.resc 1 true (.box r) fun t =>
 o.resc 1 true (.box s) fun u =>
 some (.tuple [t, u, (.int .i64 11)], H))
 (o.lload 0 1 true (.box b) fun v =>
 o.lload 0 1 true (.box a) fun w =>
 o.call (C 11 [v, w] H) fun x c =>
 o.lss x (.int .i64 0) fun y =>
 (o.cond y
 (o.build [.slice nilSl] [] [] fun z =>
 o.lload 0 1 true (.box b) fun A =>
 o.bstore 0 1 (.box [.slice nilSl]) z fun B =>
 o.bstore 0 1 (.box [.slice nilSl]) A fun D =>
 o.resc 1 true (.box B) fun E =>
 o.resc 1 true (.box D) fun F =>
 some (.tuple [E, F, (.int .i64 0)], c))
 (o.lfld 0 (.box a) fun G =>
 o.lloadp 1 false (.box a) G fun I =>
 o.len I fun J =>
 o.eql J (.int .i64 1) fun L =>
 (o.cond L
 (o.lfld 0 (.box b) fun M =>
 o.lloadp 1 false (.box b) M fun N =>
 o.append 1 4 (.slice nilSl) N c fun d e =>
 o.lfld 0 (.box a) fun P =>
 o.lloadp 1 false (.box a) P fun Q =>
 o.idx 1 Q (.int .i64 0) fun S =>
 o.load 1 false S e fun T =>
 o.call (C 39 [d, T] e) fun U V =>
 o.call (C 30 [d] V) fun W X =>
 o.conv .u64 U fun Y =>
 o.call (C 10 [Y] X) fun Z aa =>
 o.bstore 0 1 (.box [.slice nilSl]) W fun ab =>
 o.bstore 0 1 (.box [.slice nilSl]) Z fun ac =>
 o.resc 1 true (.box ab) fun ad =>
 o.resc 1 true (.box ac) fun ae =>
 some (.tuple [ad, ae, (.int .i64 0)], aa))
 (o.lload 0 1 true (.box b) fun af =>
 o.lload 0 1 true (.box a) fun ag =>
 o.call (C 69 [af, ag] c) fun f ah =>
 o.ext 0 f fun ai =>
 o.ext 1 f fun aj =>
 o.bstore 0 1 (.box [.slice nilSl]) ai fun g =>
 o.bstore 0 1 (.box [.slice nilSl]) aj fun h =>
 o.lload 0 1 true (.box g) fun ak =>
 o.lload 0 1 true (.box h) fun al =>
 o.bstore 0 1 (.box g) ak fun am =>
 o.bstore 0 1 (.box h) al fun an =>
 o.resc 1 true (.box am) fun ap =>
 o.resc 1 true (.box an) fun aq =>
 some (.tuple [ap, aq, (.int .i64 0)], ah)))))))
def f41_l1 (o : Ops) (K : Nat) (C : CallC) : SV -> SV -> SV -> Heap -> (SV -> SV -> SV -> Heap -> Rs) -> Rs := fun b a d e f =>
 o.lfld 0 a fun g =>
 o.lloadp 1 false a g fun h =>
 o.len h fun i =>
 o.gtr i (.int .i64 0) fun j =>
 (o.cond j
 (o.lload 0 1 true b fun k =>
 o.lload 0 1 true a fun l =>
 o.call (C 40 [k, l] e) fun c m =>
 o.ext 0 c fun n =>
 o.ext 1 c fun p =>
 o.ext 2 c fun y =>
 o.bstore 0 1 (.box [.slice nilSl]) n fun z =>
 o.bstore 0 1 (.box [.slice nilSl]) p fun q =>
 o.lload 0 1 true a fun r =>
 o.lload 0 1 true (.box q) fun s =>
 o.bstore 0 1 b r fun t =>
 o.bstore 0 1 a s fun u =>
 f (.box t) (.box u) d m)
 (o.lload 0 1 true b fun v =>
 o.bstore 0 1 d v fun w =>
 o.resc 1 true (.box w) fun x =>
 some (x, e)))
def f41 (o : Ops) (K : Nat) (C : CallC) (a b : SV) (H : Heap) : Rs :=
 o.bbox a fun c =>
 o.bbox b fun d =>
 (o.loop3 (f41_l1 o K C) K (.box c) (.box d) (.box [.slice nilSl]) H)
def f42_j1 (o : Ops) (K : Nat) (C : CallC) (a c d e : SV) (b : Heap) : Rs :=
 (o.cond e
 (o.build [.bool false, .slice nilSl, .slice nilSl] [] [] fun f =>
 o.bstore 0 3 a f fun g =>
 o.resc 3 true (.box g) fun h =>
 some (.tuple [h, (.int .i64 3)], b))
 (o.lload 0 2 true c fun i =>
 o.lload 0 1 true d fun j =>
 o.call (C 62 [i, j] b) fun k l =>
 o.bstore 0 3 a k fun m =>
 o.resc 3 true (.box m) fun n =>
 some (.tuple [n, (.int .i64 0)], l)))
def f42 (o : Ops) (K : Nat) (C : CallC) (g h i : SV) (H : Heap) : Rs :=
 o.bbox g fun a =>
 o.bbox h fun j =>
 o.bbox i fun k =>
 o.lfld 0 (.box a) fun l =>
 o.lloadp 2 true (.box a) l fun m =>
 o.lload 0 2 true (.box j) fun n =>
 o.call (C 48 [m, n] H) fun b p =>
 o.ext 0 b fun q =>
 o.ext 1 b fun r =>
 o.bstore 0 2 (.box [.bool false, .slice nilSl]) q fun c =>
 o.lload 0 3 true (.box a) fun s =>
 o.call (C 38 [s] p) fun t u =>
 o.lload 0 1 true (.box k) fun v =>
 o.call (C 9 [t, v] u) fun d e =>
 o.ext 0 d fun w =>
 o.ext 1 d fun x =>
 o.bstore 0 1 (.box [.slice nilSl]) w fun f =>
 o.neq r (.int .i64 0) fun y =>
 (o.guard y
 ((f42_j1 o K C (.box [.bool false, .slice nilSl, .slice nilSl]) (.box c) (.box f) (.bool true) e))
 (o.neq x (.int .i64 0) fun z =>
 (f42_j1 o K C (.box [.bool false, .slice nilSl, .slice nilSl]) (.box c) (.box f) z e))
 (none))
def f43 (o : Ops) (K : Nat) (C : CallC) (c : SV) (H : Heap) : Rs :=
 o.bbox c fun a =>
 o.lfld 0 (.box a) fun d =>
 o.lloadp 1 false (.box a) d fun e =>
 o.len e fun b =>
 o.eql b (.int .i64 0) fun f =>
 (o.cond f
 (some (.tuple [(.int .u64 0), (.bool true)], H))
 (o.eql b (.int .i64 1) fun g =>
 (o.cond g
 (o.lfld 0 (.box a) fun h =>
 o.lloadp 1 false (.box a) h fun i =>
 o.idx 1 i (.int .i64 0) fun j =>
 o.load 1 false j H fun k =>
 o.conv .u64 k fun l =>
 o.rest l fun m =>
 some (.tuple [m, (.bool true)], H))
 (o.eql b (.int .i64 2) fun n =>
 (o.cond n
 (o.lfld 0 (.box a) fun p =>
 o.lloadp 1 false (.box a) p fun q =>
 o.idx 1 q (.int .i64 1) fun r =>
 o.load 1 false r H fun s =>
 o.conv .u64 s fun t =>
 o.shl t (.int .u64 32) fun u =>
 o.lfld 0 (.box a) fun v =>
 o.lloadp 1 false (.box a) v fun w =>
 o.idx 1 w (.int .i64 0) fun x =>
 o.load 1 false x H fun y =>
 o.conv .u64 y fun z =>
 o.or u z fun A =>
 o.rest A fun B =>
 some (.tuple [B, (.bool true)], H))
 (some (.tuple [(.int .u64 0), (.bool false)], H)))))))
def f44_l3 (o : Ops) (K : Nat) (C : CallC) (k : SV -> SV -> SV -> SV -> SV -> Heap -> Rs) : SV -> SV -> SV -> SV -> SV -> SV -> SV -> SV -> SV -> Heap -> (SV -> SV -> SV -> SV -> SV -> SV -> SV -> SV -> SV -> Heap -> Rs) -> Rs := fun d b e f c g h i a j l =>
 o.lss a i fun m =>
 (o.cond m
 (o.callv C [b, f, a] j fun n p =>
 o.idx 2 c a fun q =>
 o.store 2 q n p fun r =>
 o.add a (.int .i64 1) fun s =>
 l d b e f c g h i s r)
 (o.hbuild 1 [.slice nilSl] [(0, 1)] [c] j fun t u =>
 o.append 1 24 e t u fun v w =>
 o.add h (.int .i64 1) fun x =>
 k d b v g x w))
def f44_l1 (o : Ops) (K : Nat) (C : CallC) : SV -> SV -> SV -> SV -> SV -> Heap -> (SV -> SV -> SV -> SV -> SV -> Heap -> Rs) -> Rs := fun a g c d b e h =>
 o.lss b d fun i =>
 (o.cond i
 (o.make 2 32 [.bool false, .slice nilSl] a a e fun f j =>
 o.len f fun k =>
 (o.loop9 (f44_l3 o K C h) K a g c b f d b k (.int .i64 0) j))
 (o.rest c fun l =>
 some (l, e)))
def f44 (o : Ops) (K : Nat) (C : CallC) (a b : SV) (H : Heap) : Rs :=
 (o.loop5 (f44_l1 o K C) K a b (.slice nilSl) a (.int .i64 0) H)
def f45 (o : Ops) (K : Nat) (C : CallC) (a b c : SV) (H : Heap) : Rs :=
 o.load 1 false c H fun d =>
 o.idx 1 d a fun e =>
 o.load 1 false e H fun f =>
 o.idx 1 f b fun g =>
 o.load 1 false g H fun h =>
 o.call (C 46 [h] H) fun i j =>
 o.bstore 0 2 (.box [.bool false, .slice nilSl]) i fun k =>
 o.resc 2 true (.box k) fun l =>
 some (l, j)
def f46 (o : Ops) (K : Nat) (C : CallC) (a : SV) (H : Heap) : Rs :=
 o.lss a (.int .i64 0) fun b =>
 (o.cond b
 (o.conv .u64 a fun c =>
 o.u_neg c fun d =>
 o.call (C 10 [d] H) fun e f =>
 o.build [.bool false, .slice nilSl] [(0, 1), (1, 1)] [(.bool true), e] fun g =>
 o.bstore 0 2 (.box [.bool false, .slice nilSl]) g fun h =>
 o.resc 2 true (.box h) fun i =>
 some (i, f))
 (o.conv .u64 a fun j =>
 o.call (C 10 [j] H) fun k l =>
 o.build [.bool false, .slice nilSl] [(1, 1)] [k] fun m =>
 o.bstore 0 2 (.box [.bool false, .slice nilSl]) m fun n =>
 o.resc 2 true (.box n) fun p =>
 some (p, l)))
def f47 (o : Ops) (K : Nat) (C : CallC) (c : SV) (H : Heap) : Rs :=
 o.bbox c fun a =>
 o.lfld 1 (.box a) fun d =>
 o.lloadp 1 true (.box a) d fun e =>
 o.call (C 7 [e] H) fun f b =>
 o.eql f (.int .i64 0) fun g =>
 (o.cond g
 (some ((.int .i64 0), b))
 (o.lfld 0 (.box a) fun h =>
 o.lloadp 1 false (.box a) h fun i =>
 (o.cond i
 (some ((.int .i64 (-1)), b))
 (some ((.int .i64 1), b)))))
def f48 (o : Ops) (K : Nat) (C : CallC) (d e : SV) (H : Heap) : Rs :=
 o.bbox d fun a =>
 o.bbox e fun b =>
 o.lfld 1 (.box a) fun f =>
 o.lloadp 1 true (.box a) f fun g =>
 o.lfld 1 (.box b) fun h =>
 o.lloadp 1 true (.box b) h fun i =>
 o.call (C 9 [g, i] H) fun c j =>
 o.ext 0 c fun k =>
 o.ext 1 c fun l =>
 o.bstore 0 1 (.box [.slice nilSl]) k fun m =>
 o.lfld 0 (.box a) fun n =>
 o.lloadp 1 false (.box a) n fun p =>
 o.lfld 0 (.box b) fun q =>
 o.lloadp 1 false (.box b) q fun r =>
 o.b_neq p r fun s =>
 o.lload 0 1 true (.box m) fun t =>
 o.call (C 18 [s, t] j) fun u v =>
 o.bstore 0 2 (.box [.bool false, .slice nilSl]) u fun w =>
 o.resc 2 true (.box w) fun x =>
 o.rest l fun y =>
 some (.tuple [x, y], v)
def f49 (o : Ops) (K : Nat) (C : CallC) (b c : SV) (H : Heap) : Rs :=
 o.bbox b fun d =>
 o.bbox c fun e =>
 o.lload 0 2 true (.box d) fun f =>
 o.lload 0 2 true (.box e) fun g =>
 o.call (C 61 [g] H) fun h i =>
 o.call (C 70 [f, h] i) fun a j =>
 o.ext 0 a fun k =>
 o.ext 1 a fun l =>
 o.bstore 0 2 (.box [.bool false, .slice nilSl]) k fun m =>
 o.resc 2 true (.box m) fun n =>
 o.rest l fun p =>
 some (.tuple [n, p], j)
def f50 (o : Ops) (K : Nat) (C : CallC) (e f : SV) (H : Heap) : Rs :=
 o.bbox e fun g =>
 o.bbox f fun h =>
 o.lload 0 2 true (.box g) fun i =>
 o.lload 0 2 true (.box h) fun j =>
 o.call (C 71 [i, j] H) fun a b =>
 o.ext 0 a fun k =>
 o.ext 1 a fun l =>
 o.ext 2 a fun c =>
 o.bstore 0 2 (.box [.bool false, .slice nilSl]) k fun m =>
 o.bstore 0 2 (.box [.bool false, .slice nilSl]) l fun n =>
 o.neq c (.int .i64 0) fun p =>
 (o.cond p
 (o.build [.bool false, .slice nilSl] [] [] fun q =>
 o.bstore 0 2 (.box [.bool false, .slice nilSl]) q fun r =>
 o.resc 2 true (.box r) fun s =>
 o.rest c fun t =>
 some (.tuple [s, t], b))
 (o.lload 0 2 true (.box n) fun u =>
 o.call (C 47 [u] b) fun v d =>
 o.neq v (.int .i64 0) fun w =>
 (o.cond w
 (o.build [.bool false, .slice nilSl] [] [] fun x =>
 o.bstore 0 2 (.box [.bool false, .slice nilSl]) x fun y =>
 o.resc 2 true (.box y) fun z =>
 some (.tuple [z, (.int .i64 2)], d))
 (o.lload 0 2 true (.box m) fun A =>
 o.bstore 0 2 (.box [.bool false, .slice nilSl]) A fun B =>
 o.resc 2 true (.box B) fun D =>
 some (.tuple [D, (.int .i64 0)], d)))))
def f51_j3 (o : Ops) (K : Nat) (C : CallC) (b : SV -> SV -> SV -> SV -> Heap -> Rs) (c d e f g : SV) (a : Heap) : Rs :=
 (o.cond g
 (some ((.bool false), a))
 (o.add f (.int .i64 1) fun h =>
 b c d e h a))
def f51_l1 (o : Ops) (K : Nat) (C : CallC) : SV -> SV -> SV -> SV -> Heap -> (SV -> SV -> SV -> SV -> Heap -> Rs) -> Rs := fun b d e c a f =>
 o.lss c e fun h =>
 (o.cond h
 (o.idx 1 d c fun i =>
 o.load 1 false i a fun g =>
 o.len b fun j =>
 o.gtr j (.int .i64 16) fun k =>
 (o.guard k
 ((f51_j3 o K C f b d e c (.bool true) a))
 (o.lss g (.int .i64 1) fun l =>
 (o.guard l
 ((f51_j3 o K C f b d e c (.bool true) a))
 (o.gtr g (.int .i64 16) fun m =>
 (o.guard m
 ((f51_j3 o K C f b d e c (.bool true) a))
 (o.idx 1 b (.int .i64 0) fun n =>
 o.load 1 false n a fun p =>
 o.neq g p fun q =>
 (f51_j3 o K C f b d e c q a))
 (none)))
 (none)))
 (none)))
 (some ((.bool true), a)))
def f51 (o : Ops) (K : Nat) (C : CallC) (a : SV) (H : Heap) : Rs :=
 o.len a fun b =>
 (o.loop4 (f51_l1 o K C) K a a b (.int .i64 0) H)
def f52_l1 (o : Ops) (K : Nat) (C : CallC) : SV -> SV -> SV -> SV -> Heap -> (SV -> SV -> SV -> SV -> Heap -> Rs) -> Rs := fun c d e a b f =>
 o.lss a e fun g =>
 (o.cond g
 (o.idx 1 c a fun h =>
 o.load 1 false h b fun i =>
 o.len i fun j =>
 o.hbuild 1 [.int .i64 0] [(0, 1)] [j] b fun k l =>
 o.append 1 8 d k l fun m n =>
 o.add a (.int .i64 1) fun p =>
 f c m e p n)
 (o.rest d fun q =>
 some (q, b)))
def f52 (o : Ops) (K : Nat) (C : CallC) (a : SV) (H : Heap) : Rs :=
 o.len a fun b =>
 (o.loop4 (f52_l1 o K C) K a (.slice nilSl) b (.int .i64 0) H)
def f53_l3 (o : Ops) (K : Nat) (C : CallC) (l : SV -> SV -> SV -> SV -> SV -> SV -> Heap -> Rs) : SV -> SV -> SV -> SV -> SV -> SV -> SV -> SV -> SV -> SV -> Heap -> (SV -> SV -> SV -> SV -> SV -> SV -> SV -> SV -> SV -> SV -> Heap -> Rs) -> Rs := fun d b e f g c h i j a k m =>
 o.lss a j fun n =>
 (o.cond n
 (o.callv C [b, g, a] k fun p q =>
 o.idx 2 c a fun r =>
 o.store 2 r p q fun s =>
 o.add a (.int .i64 1) fun t =>
 m d b e f g c h i j t s)
 (o.hbuild 1 [.slice nilSl] [(0, 1)] [c] k fun u v =>
 o.append 1 24 f u v fun w x =>
 o.add i (.int .i64 1) fun y =>
 l d b e w h y x))
def f53_l1 (o : Ops) (K : Nat) (C : CallC) : SV -> SV -> SV -> SV -> SV -> SV -> Heap -> (SV -> SV -> SV -> SV -> SV -> SV -> Heap -> Rs) -> Rs := fun a h c d e b f i =>
 o.lss b e fun j =>
 (o.cond j
 (o.make 2 32 [.bool false, .slice nilSl] a a f fun g k =>
 o.len g fun l =>
 (o.loop10 (f53_l3 o K C i) K a h c d b g e b l (.int .i64 0) k))
 (o.build [.slice nilSl] [(0, 1)] [d] fun m =>
 o.bstore 0 1 c m fun n =>
 o.resc 1 true (.box n) fun p =>
 some (p, f)))
def f53 (o : Ops) (K : Nat) (C : CallC) (a b c : SV) (H : Heap) : Rs :=
 (o.loop6 (f53_l1 o K C) K b c (.box [.slice nilSl]) (.slice nilSl) a (.int .i64 0) H)
def f54 (o : Ops) (K : Nat) (C : CallC) (a b c : SV) (H : Heap) : Rs :=
 o.load 1 false c H fun d =>
 o.idx 1 d a fun e =>
 o.load 1 false e H fun f =>
 o.idx 1 f b fun g =>
 o.load 1 false g H fun h =>
 o.call (C 46 [h] H) fun i j =>
 o.bstore 0 2 (.box [.bool false, .slice nilSl]) i fun k =>
 o.resc 2 true (.box k) fun l =>
 some (l, j)
def f55 (o : Ops) (K : Nat) (C : CallC) (e : SV) (H : Heap) : Rs :=
 o.bbox e fun a =>
 o.lload 0 1 true (.box a) fun f =>
 o.call (C 57 [f] H) fun b c =>
 o.ext 0 b fun g =>
 o.ext 1 b fun h =>
 o.neq g h fun i =>
 (o.cond i
 (some ((.int .i64 5), c))
 (o.lload 0 1 true (.box a) fun j =>
 o.call (C 72 [j] c) fun k d =>
 (o.cond k
 (some ((.int .i64 3), d))
 (some ((.int .i64 0), d)))))
def f56_j9 (o : Ops) (K : Nat) (C : CallC) (a : SV -> SV -> SV -> SV -> SV -> SV -> SV -> SV -> Heap -> Rs) (b c d e f g h i : SV) (j : Heap) : Rs :=
 o.add i (.int .i64 1) fun k =>
 a b c d e f g h k j
def f56_l14 (o : Ops) (K : Nat) (C : CallC) (u : SV -> SV -> SV -> SV -> SV -> SV -> SV -> SV -> SV -> Heap -> Rs) : SV -> SV -> SV -> SV -> SV -> SV -> SV -> SV -> SV -> SV -> Heap -> (SV -> SV -> SV -> SV -> SV -> SV -> SV -> SV -> SV -> SV -> Heap -> Rs) -> Rs := fun k l h a i m g d c e b v =>
 o.lss e h fun w =>
 (o.cond w
 (o.idx 1 a g fun x =>
 o.load 1 false x b fun y =>
 o.idx 2 y d fun z =>
 o.load 2 true z b fun A =>
 o.idx 1 a c fun B =>
 o.load 1 false B b fun D =>
 o.idx 2 D e fun E =>
 o.load 2 true E b fun F =>
 o.call (C 48 [A, F] b) fun n f =>
 o.ext 0 n fun G =>
 o.ext 1 n fun ap =>
 o.bstore 0 2 (.box [.bool false, .slice nilSl]) G fun I =>
 o.idx 1 a c fun J =>
 o.load 1 false J f fun L =>
 o.idx 2 L d fun M =>
 o.load 2 true M f fun N =>
 o.idx 1 a g fun P =>
 o.load 1 false P f fun Q =>
 o.idx 2 Q e fun S =>
 o.load 2 true S f fun T =>
 o.call (C 48 [N, T] f) fun p U =>
 o.ext 0 p fun V =>
 o.ext 1 p fun aq =>
 o.bstore 0 2 (.box [.bool false, .slice nilSl]) V fun W =>
 o.lload 0 2 true (.box I) fun X =>
 o.lload 0 2 true (.box W) fun Y =>
 o.call (C 49 [X, Y] U) fun q j =>
 o.ext 0 q fun Z =>
 o.ext 1 q fun ar =>
 o.bstore 0 2 (.box [.bool false, .slice nilSl]) Z fun aa =>
 o.idx 1 a c fun r =>
 o.load 1 false r j fun ab =>
 o.lload 0 2 true (.box aa) fun ac =>
 o.lload 0 2 true i fun ad =>
 o.call (C 50 [ac, ad] j) fun s t =>
 o.ext 0 s fun ae =>
 o.ext 1 s fun as =>
 o.idx 2 ab e fun af =>
 o.store 2 af ae t fun ag =>
 (o.same r j t (o.add e (.int .i64 1) fun ah =>
 v k l h a i m g d c ah ag)))
 (o.idx 1 a c fun ai =>
 o.load 1 false ai b fun aj =>
 o.build [.bool false, .slice nilSl] [] [] fun ak =>
 o.idx 2 aj d fun al =>
 o.store 2 al ak b fun am =>
 o.add c (.int .i64 1) fun an =>
 u k l h a i m g d an am))
def f56_l12 (o : Ops) (K : Nat) (C : CallC) (k : SV -> SV -> SV -> SV -> SV -> SV -> SV -> SV -> Heap -> Rs) : SV -> SV -> SV -> SV -> SV -> SV -> SV -> SV -> SV -> Heap -> (SV -> SV -> SV -> SV -> SV -> SV -> SV -> SV -> SV -> Heap -> Rs) -> Rs := fun f c g d h i e a j b l =>
 o.lss j c fun m =>
 (o.cond m
 (o.add a (.int .i64 1) fun n =>
 (o.loop10 (f56_l14 o K C l) K f c g d h i e a j n b))
 (o.idx 1 d e fun p =>
 o.load 1 false p b fun q =>
 o.idx 2 q a fun r =>
 o.load 2 true r b fun s =>
 o.bstore 0 2 h s fun t =>
 o.add e (.int .i64 1) fun u =>
 (f56_j9 o K C k f c g d (.box t) i u a b)))
def f56_j11 (o : Ops) (K : Nat) (C : CallC) (b : SV -> SV -> SV -> SV -> SV -> SV -> SV -> SV -> Heap -> Rs) (c d e f g h a i : SV) (j : Heap) : Rs :=
 o.add a (.int .i64 1) fun k =>
 (o.loop9 (f56_l12 o K C b) K c d e f g h a i k j)
def f56_j5 (o : Ops) (K : Nat) (C : CallC) (k : SV -> SV -> SV -> SV -> SV -> SV -> SV -> SV -> Heap -> Rs) (l : SV -> SV -> SV -> SV -> SV -> SV -> SV -> SV -> SV -> Heap -> Rs) (f d g a h i b j e m : SV) (c : Heap) : Rs :=
 (o.cond m
 (o.add e (.int .i64 1) fun n =>
 l f d g a h i b j n c)
 (o.eql e d fun p =>
 (o.cond p
 ((f56_j9 o K C k f d g a h i b j c))
 (o.neq e b fun q =>
 (o.cond q
 (o.idx 1 a b fun r =>
 o.load 1 false r c fun s =>
 o.idx 1 a e fun t =>
 o.load 1 false t c fun u =>
 o.idx 1 a e fun v =>
 o.store 1 v s c fun w =>
 o.idx 1 a b fun x =>
 o.store 1 x u w fun y =>
 o.u_neg i fun z =>
 (f56_j11 o K C k f d g a h z b j y))
 ((f56_j11 o K C k f d g a h i b j c)))))))
def f56_l4 (o : Ops) (K : Nat) (C : CallC) (f : SV -> SV -> SV -> SV -> SV -> SV -> SV -> SV -> Heap -> Rs) : SV -> SV -> SV -> SV -> SV -> SV -> SV -> SV -> SV -> Heap -> (SV -> SV -> SV -> SV -> SV -> SV -> SV -> SV -> SV -> Heap -> Rs) -> Rs := fun g c h d i j k e a b l =>
 o.lss a c fun m =>
 (o.guard m
 (o.idx 1 d a fun n =>
 o.load 1 false n b fun p =>
 o.idx 2 p e fun q =>
 o.load 2 true q b fun r =>
 o.call (C 47 [r] b) fun s t =>
 o.eql s (.int .i64 0) fun u =>
 (f56_j5 o K C f l g c h d i j k e a u t))
 ((f56_j5 o K C f l g c h d i j k e a (.bool false) b))
 (none))
def f56_j2 (o : Ops) (K : Nat) (C : CallC) (g : SV -> SV -> SV -> SV -> SV -> SV -> SV -> SV -> Heap -> Rs) (b e h i d f a j k : SV) (c : Heap) : Rs :=
 (o.cond k
 ((o.loop9 (f56_l4 o K C g) K b e h i d f a j a c))
 (o.lss a e fun l =>
 (o.cond l
 (o.build [.bool false, .slice nilSl] [] [] fun m =>
 o.bstore 0 2 b m fun n =>
 o.rest a fun p =>
 o.resc 2 true (.box n) fun q =>
 some (.tuple [p, q], c))
 (o.lss f (.int .i64 0) fun r =>
 (o.cond r
 (o.lload 0 2 true d fun s =>
 o.call (C 61 [s] c) fun t u =>
 o.bstore 0 2 b t fun v =>
 o.rest a fun w =>
 o.resc 2 true (.box v) fun x =>
 some (.tuple [w, x], u))
 (o.lload 0 2 true d fun y =>
 o.bstore 0 2 b y fun z =>
 o.rest a fun A =>
 o.resc 2 true (.box z) fun B =>
 some (.tuple [A, B], c)))))))
def f56_l1 (o : Ops) (K : Nat) (C : CallC) : SV -> SV -> SV -> SV -> SV -> SV -> SV -> SV -> Heap -> (SV -> SV -> SV -> SV -> SV -> SV -> SV -> SV -> Heap -> Rs) -> Rs := fun e a b f g h c d i j =>
 o.lss d b fun k =>
 (o.guard k
 (o.lss c a fun l =>
 (f56_j2 o K C j e a b f g h c d l i))
 ((f56_j2 o K C j e a b f g h c d (.bool false) i))
 (none))
def f56 (o : Ops) (K : Nat) (C : CallC) (e : SV) (H : Heap) : Rs :=
 o.bbox e fun a =>
 o.lload 0 1 true (.box a) fun f =>
 o.call (C 57 [f] H) fun b g =>
 o.ext 0 b fun c =>
 o.ext 1 b fun d =>
 o.lload 0 1 true (.box a) fun h =>
 o.mkfn 35 1 [h] fun i =>
 o.call (C 53 [c, d, i] g) fun j k =>
 o.fieldv 0 1 false j fun l =>
 o.call (C 46 [(.int .i64 1)] k) fun m n =>
 o.bstore 0 2 (.box [.bool false, .slice nilSl]) m fun p =>
 (o.loop8 (f56_l1 o K C) K (.box [.bool false, .slice nilSl]) c d l (.box p) (.int .i64 1) (.int .i64 0) (.int .i64 0) n)
def f57 (o : Ops) (K : Nat) (C : CallC) (b : SV) (H : Heap) : Rs :=
 o.bbox b fun a =>
 o.lfld 0 (.box a) fun c =>
 o.lloadp 1 false (.box a) c fun d =>
 o.len d fun e =>
 o.eql e (.int .i64 0) fun f =>
 (o.cond f
 (some (.tuple [(.int .i64 0), (.int .i64 0)], H))
 (o.lfld 0 (.box a) fun g =>
 o.lloadp 1 false (.box a) g fun h =>
 o.len h fun i =>
 o.lfld 0 (.box a) fun j =>
 o.lloadp 1 false (.box a) j fun k =>
 o.idx 1 k (.int .i64 0) fun l =>
 o.load 1 false l H fun m =>
 o.len m fun n =>
 o.rest i fun p =>
 o.rest n fun q =>
 some (.tuple [p, q], H)))
def f58 (o : Ops) (K : Nat) (C : CallC) (a b : SV) (H : Heap) : Rs :=
 o.geq a b fun c =>
 (o.cond c
 (o.add a (.int .i64 1) fun d =>
 o.rest d fun e =>
 some (e, H))
 (o.rest a fun f =>
 some (f, H)))
def f59_j1 (o : Ops) (K : Nat) (C : CallC) (d e b c : SV) (a : Heap) : Rs :=
 o.load 1 false d a fun f =>
 o.load 1 false e a fun g =>
 o.add f g fun h =>
 o.rem h (.int .i64 2) fun i =>
 o.neq i (.int .i64 0) fun j =>
 (o.cond j
 (o.lload 0 2 true c fun k =>
 o.call (C 61 [k] a) fun l m =>
 o.bstore 0 2 b l fun n =>
 o.resc 2 true (.box n) fun p =>
 some (p, m))
 (o.lload 0 2 true c fun q =>
 o.bstore 0 2 b q fun r =>
 o.resc 2 true (.box r) fun s =>
 some (s, a)))
def f59 (o : Ops) (K : Nat) (C : CallC) (h i a j k : SV) (H : Heap) : Rs :=
 o.box h H fun b l =>
 o.box i l fun c d =>
 o.load 1 false a d fun m =>
 o.sub m (.int .i64 1) fun n =>
 o.load 1 false a d fun p =>
 o.sub p (.int .i64 1) fun q =>
 o.mkfn 60 0 [j, k, c, b] fun r =>
 o.call (C 53 [n, q, r] d) fun s t =>
 o.call (C 56 [s] t) fun f e =>
 o.ext 0 f fun A =>
 o.ext 1 f fun u =>
 o.bstore 0 2 (.box [.bool false, .slice nilSl]) u fun g =>
 o.load 1 false a e fun v =>
 o.eql v (.int .i64 1) fun w =>
 (o.cond w
 (o.call (C 46 [(.int .i64 1)] e) fun x y =>
 o.bstore 0 2 (.box g) x fun z =>
 (f59_j1 o K C b c (.box [.bool false, .slice nilSl]) (.box z) y))
 ((f59_j1 o K C b c (.box [.bool false, .slice nilSl]) (.box g) e)))
def f60 (o : Ops) (K : Nat) (C : CallC) (g h i c j e : SV) (H : Heap) : Rs :=
 o.fld 0 i fun d =>
 o.load 1 false d H fun k =>
 o.load 1 false c H fun l =>
 o.load 1 false j H fun m =>
 o.callv C [l, g, m] H fun n a =>
 o.idx 1 k n fun f =>
 o.load 1 false f a fun p =>
 o.load 1 false c a fun q =>
 o.load 1 false e a fun r =>
 o.callv C [q, h, r] a fun s b =>
 o.idx 2 p s fun t =>
 o.load 2 true t b fun u =>
 o.bstore 0 2 (.box [.bool false, .slice nilSl]) u fun v =>
 (o.same d H a ((o.same c H a ((o.same e H a ((o.same d a b ((o.same f a b (o.resc 2 true (.box v) fun w =>
 some (w, b)))))))))))
def f61 (o : Ops) (K : Nat) (C : CallC) (b : SV) (H : Heap) : Rs :=
 o.bbox b fun a =>
 o.lfld 0 (.box a) fun c =>
 o.lloadp 1 false (.box a) c fun d =>
 o.u_not d fun e =>
 o.lfld 1 (.box a) fun f =>
 o.lloadp 1 true (.box a) f fun g =>
 o.call (C 18 [e, g] H) fun h i =>
 o.bstore 0 2 (.box [.bool false, .slice nilSl]) h fun j =>
 o.resc 2 true (.box j) fun k =>
 some (k, i)
def f62_j1 (o : Ops) (K : Nat) (C : CallC) (b c d : SV) (e : Heap) : Rs :=
 o.lload 0 1 true c fun f =>
 o.call (C 68 [] e) fun g h =>
 o.call (C 73 [f, g] h) fun a i =>
 o.ext 0 a fun j =>
 o.ext 1 a fun r =>
 o.bstore 0 1 (.box [.slice nilSl]) j fun k =>
 o.lload 0 2 true b fun l =>
 o.lload 0 1 true (.box k) fun m =>
 o.build [.bool false, .slice nilSl, .slice nilSl] [(0, 2), (2, 1)] [l, m] fun n =>
 o.bstore 0 3 d n fun p =>
 o.resc 3 true (.box p) fun q =>
 some (q, i)
def f62 (o : Ops) (K : Nat) (C : CallC) (g h : SV) (H : Heap) : Rs :=
 o.bbox g fun a =>
 o.bbox h fun b =>
 o.lload 0 2 true (.box a) fun i =>
 o.call (C 63 [i] H) fun j k =>
 o.lload 0 1 true (.box b) fun l =>
 o.call (C 41 [j, l] k) fun m n =>
 o.bstore 0 1 (.box [.slice nilSl]) m fun c =>
 o.lload 0 1 true (.box c) fun p =>
 o.call (C 68 [] n) fun q r =>
 o.call (C 11 [p, q] r) fun s f =>
 o.gtr s (.int .i64 0) fun t =>
 (o.cond t
 (o.lload 0 2 true (.box a) fun u =>
 o.call (C 63 [u] f) fun v w =>
 o.lload 0 1 true (.box c) fun x =>
 o.call (C 40 [v, x] w) fun d y =>
 o.ext 0 d fun z =>
 o.ext 1 d fun A =>
 o.ext 2 d fun U =>
 o.bstore 0 1 (.box [.slice nilSl]) z fun B =>
 o.bstore 0 1 (.box [.slice nilSl]) A fun V =>
 o.lload 0 2 true (.box a) fun D =>
 o.call (C 47 [D] y) fun E F =>
 o.lss E (.int .i64 0) fun G =>
 o.lload 0 1 true (.box B) fun I =>
 o.call (C 18 [G, I] F) fun J L =>
 o.bstore 0 2 (.box a) J fun M =>
 o.lload 0 1 true (.box b) fun N =>
 o.lload 0 1 true (.box c) fun P =>
 o.call (C 40 [N, P] L) fun e Q =>
 o.ext 0 e fun S =>
 o.ext 1 e fun W =>
 o.ext 2 e fun X =>
 o.bstore 0 1 (.box b) S fun T =>
 (f62_j1 o K C (.box M) (.box T) (.box [.bool false, .slice nilSl, .slice nilSl]) Q))
 ((f62_j1 o K C (.box a) (.box b) (.box [.bool false, .slice nilSl, .slice nilSl]) f)))
def f63 (o : Ops) (K : Nat) (C : CallC) (b : SV) (H : Heap) : Rs :=
 o.bbox b fun a =>
 o.lfld 1 (.box a) fun c =>
 o.lloadp 1 true (.box a) c fun d =>
 o.bstore 0 1 (.box [.slice nilSl]) d fun e =>
 o.resc 1 true (.box e) fun f =>
 some (f, H)
def f64 (o : Ops) (K : Nat) (C : CallC) (f g : SV) (H : Heap) : Rs :=
 o.bbox f fun a =>
 o.lload 0 1 true (.box a) fun h =>
 o.call (C 74 [h] H) fun b c =>
 o.ext 0 b fun i =>
 o.ext 1 b fun j =>
 o.u_not j fun k =>
 (o.cond k
 (some (.tuple [(.slice nilSl), (.int .i64 3)], c))
 (o.lload 0 1 true (.box a) fun l =>
 o.call (C 57 [l] c) fun d m =>
 o.ext 0 d fun u =>
 o.ext 1 d fun n =>
 o.callv C [g, i, n] m fun e p =>
 o.ext 0 e fun q =>
 o.ext 1 e fun r =>
 o.rest q fun s =>
 o.rest r fun t =>
 some (.tuple [s, t], p)))
def f65_j3 (o : Ops) (K : Nat) (C : CallC) (a : SV -> SV -> SV -> SV -> Heap -> Rs) (b c d e : SV) (f : Heap) : Rs :=
 o.add e (.int .i64 1) fun g =>
 a b c d g f
def f65_l1 (o : Ops) (K : Nat) (C : CallC) : SV -> SV -> SV -> SV -> Heap -> (SV -> SV -> SV -> SV -> Heap -> Rs) -> Rs := fun b c d a e f =>
 o.lss a d fun i =>
 (o.cond i
 (o.idx 2 c a fun j =>
 o.load 2 true j e fun k =>
 o.bstore 0 2 (.box [.bool false, .slice nilSl]) k fun g =>
 o.lload 0 2 true (.box g) fun l =>
 o.call (C 47 [l] e) fun m h =>
 o.neq m (.int .i64 0) fun n =>
 (o.cond n
 (o.lload 0 2 true (.box g) fun p =>
 o.call (C 63 [p] h) fun q r =>
 o.hbuild 1 [.slice nilSl] [(0, 1)] [q] r fun s t =>
 o.append 1 24 b s t fun u v =>
 (f65_j3 o K C f u c d a v))
 ((f65_j3 o K C f b c d a h))))
 (o.rest b fun w =>
 some (.tuple [w, (.int .i64 0)], e)))
def f65 (o : Ops) (K : Nat) (C : CallC) (b c : SV) (H : Heap) : Rs :=
 o.call (C 66 [b, c] H) fun a d =>
 o.len a fun e =>
 (o.loop4 (f65_l1 o K C) K (.slice nilSl) a e (.int .i64 0) d)
def f66_j15 (o : Ops) (K : Nat) (C : CallC) (a : SV -> SV -> SV -> SV -> SV -> Heap -> Rs) (b c d e f : SV) (g : Heap) : Rs :=
 o.add d (.int .i64 1) fun h =>
 a b c h e f g
def f66_l13 (o : Ops) (K : Nat) (C : CallC) (s : SV -> SV -> SV -> Heap -> Rs) : SV -> SV -> SV -> SV -> SV -> Heap -> (SV -> SV -> SV -> SV -> SV -> Heap -> Rs) -> Rs := fun a c b e f d l =>
 o.len a fun t =>
 o.lss b t fun u =>
 (o.cond u
 (o.idx 2 a c fun v =>
 o.load 2 true v d fun w =>
 o.idx 2 a b fun x =>
 o.load 2 true x d fun y =>
 o.call (C 78 [w, y] d) fun g z =>
 o.ext 0 g fun A =>
 o.ext 1 g fun B =>
 o.ext 2 g fun D =>
 o.bstore 0 1 (.box [.slice nilSl]) A fun m =>
 o.bstore 0 2 (.box [.bool false, .slice nilSl]) B fun af =>
 o.bstore 0 2 (.box [.bool false, .slice nilSl]) D fun ag =>
 o.lload 0 1 true (.box m) fun E =>
 o.call (C 7 [E] z) fun F n =>
 o.eql F (.int .i64 0) fun G =>
 (o.cond G
 ((f66_j15 o K C l a c b e f n))
 (o.lload 0 1 true (.box m) fun I =>
 o.call (C 18 [(.bool false), I] n) fun J h =>
 o.bstore 0 2 (.box [.bool false, .slice nilSl]) J fun p =>
 o.lload 0 2 true (.box p) fun L =>
 o.idx 2 a c fun M =>
 o.load 2 true M h fun N =>
 o.lload 0 2 true (.box p) fun P =>
 o.call (C 50 [N, P] h) fun q i =>
 o.ext 0 q fun Q =>
 o.ext 1 q fun S =>
 o.call (C 79 [Q, S] i) fun T j =>
 o.idx 2 a b fun k =>
 o.load 2 true k j fun U =>
 o.call (C 48 [T, U] j) fun r V =>
 o.ext 0 r fun W =>
 o.ext 1 r fun X =>
 o.call (C 79 [W, X] V) fun Y Z =>
 o.idx 2 a c fun aa =>
 o.store 2 aa L Z fun ab =>
 o.idx 2 a b fun ac =>
 o.store 2 ac Y ab fun ad =>
 (o.same k h i ((o.same k i j ((f66_j15 o K C l a c b e f ad))))))))
 (o.add f (.int .i64 1) fun ae =>
 s a e ae d))
def f66_l11 (o : Ops) (K : Nat) (C : CallC) : SV -> SV -> SV -> Heap -> (SV -> SV -> SV -> Heap -> Rs) -> Rs := fun b c a d e =>
 o.lss a c fun f =>
 (o.cond f
 (o.add a (.int .i64 1) fun g =>
 (o.loop5 (f66_l13 o K C e) K b a g c a d))
 (o.rest b fun h =>
 some (h, d)))
def f66_j7 (o : Ops) (K : Nat) (C : CallC) (e : SV -> SV -> SV -> SV -> Heap -> Rs) (d f b c g : SV) (a : Heap) : Rs :=
 (o.cond g
 (o.idx 1 d c fun h =>
 o.load 1 false h a fun i =>
 o.idx 2 i c fun j =>
 o.load 2 true j a fun k =>
 o.call (C 63 [k] a) fun l m =>
 o.call (C 18 [(.bool false), l] m) fun n p =>
 o.hbuild 2 [.bool false, .slice nilSl] [(0, 2)] [n] p fun q r =>
 o.append 2 32 b q r fun s t =>
 o.add c (.int .i64 1) fun u =>
 e d f s u t)
 (o.len b fun v =>
 (o.loop3 (f66_l11 o K C) K b v (.int .i64 0) a)))
def f66_l6 (o : Ops) (K : Nat) (C : CallC) : SV -> SV -> SV -> SV -> Heap -> (SV -> SV -> SV -> SV -> Heap -> Rs) -> Rs := fun b c d a e f =>
 o.len b fun g =>
 o.lss a g fun h =>
 (o.guard h
 (o.lss a c fun i =>
 (f66_j7 o K C f b c d a i e))
 ((f66_j7 o K C f b c d a (.bool false) e))
 (none))
def f66_j2 (o : Ops) (K : Nat) (C : CallC) (d : SV -> SV -> SV -> Heap -> Rs) (a b e : SV) (c : Heap) : Rs :=
 (o.cond e
 (o.call (C 77 [a, b] c) fun f g =>
 o.call (C 76 [f, b] g) fun h i =>
 o.len a fun j =>
 d h j (.bool false) i)
 ((o.loop4 (f66_l6 o K C) K a b (.slice nilSl) (.int .i64 0) c)))
def f66_l1 (o : Ops) (K : Nat) (C : CallC) : SV -> SV -> SV -> Heap -> (SV -> SV -> SV -> Heap -> Rs) -> Rs := fun a b e c d =>
 (o.guard e
 ((f66_j2 o K C d a b (.bool true) c))
 (o.call (C 75 [a] c) fun f g =>
 o.u_not f fun h =>
 (f66_j2 o K C d a b h g))
 (none))
def f66 (o : Ops) (K : Nat) (C : CallC) (a b : SV) (H : Heap) : Rs :=
 (o.loop3 (f66_l1 o K C) K a b (.bool true) H)
def f67_j4 (o : Ops) (K : Nat) (C : CallC) (c : SV -> SV -> SV -> SV -> SV -> SV -> Heap -> Rs) (d e a b f g h : SV) (i : Heap) : Rs :=
 o.conv .u32 b fun j =>
 o.idx 1 a f fun k =>
 o.store 1 k j i fun l =>
 o.shr b (.int .u64 32) fun m =>
 o.add h (.int .i64 1) fun n =>
 c d e a m g n l
def f67_l2 (o : Ops) (K : Nat) (C : CallC) : SV -> SV -> SV -> SV -> SV -> SV -> Heap -> (SV -> SV -> SV -> SV -> SV -> SV -> Heap -> Rs) -> Rs := fun b e d j f a c g =>
 o.lss a f fun k =>
 (o.cond k
 (o.idx 1 d a fun l =>
 o.load 1 false l c fun m =>
 o.conv .u64 m fun n =>
 o.add j n fun h =>
 o.lfld 0 b fun p =>
 o.lloadp 1 false b p fun q =>
 o.len q fun r =>
 o.lss a r fun s =>
 (o.cond s
 (o.lfld 0 b fun t =>
 o.lloadp 1 false b t fun u =>
 o.idx 1 u a fun v =>
 o.load 1 false v c fun w =>
 o.conv .u64 w fun x =>
 o.add h x fun y =>
 (f67_j4 o K C g b e d y a f a c))
 ((f67_j4 o K C g b e d h a f a c))))
 (o.call (C 30 [d] c) fun z A =>
 o.call (C 29 [z] A) fun i B =>
 o.ext 0 i fun D =>
 o.ext 1 i fun E =>
 o.bstore 0 1 e D fun F =>
 o.resc 1 true (.box F) fun G =>
 o.rest E fun I =>
 some (.tuple [G, I], B)))
def f67_j1 (o : Ops) (K : Nat) (C : CallC) (a d e : SV) (f : Heap) : Rs :=
 o.lfld 0 a fun g =>
 o.lloadp 1 false a g fun h =>
 o.len h fun i =>
 o.add i (.int .i64 1) fun c =>
 o.make 1 4 [.int .u32 0] c c f fun b j =>
 o.lfld 0 a fun k =>
 o.lloadp 1 false a k fun l =>
 o.copy 1 b l j fun p m =>
 o.len b fun n =>
 (o.loop6 (f67_l2 o K C) K d e b (.int .u64 0) n (.int .i64 0) m)
def f67 (o : Ops) (K : Nat) (C : CallC) (c d : SV) (H : Heap) : Rs :=
 o.bbox c fun a =>
 o.bbox d fun b =>
 o.lfld 0 (.box a) fun e =>
 o.lloadp 1 false (.box a) e fun f =>
 o.len f fun g =>
 o.lfld 0 (.box b) fun h =>
 o.lloadp 1 false (.box b) h fun i =>
 o.len i fun j =>
 o.lss g j fun k =>
 (o.cond k
 (o.lload 0 1 true (.box b) fun l =>
 o.lload 0 1 true (.box a) fun m =>
 o.bstore 0 1 (.box a) l fun n =>
 o.bstore 0 1 (.box b) m fun p =>
 (f67_j1 o K C (.box n) (.box p) (.box [.slice nilSl]) H))
 ((f67_j1 o K C (.box a) (.box b) (.box [.slice nilSl]) H)))
def f68 (o : Ops) (K : Nat) (C : CallC) (H : Heap) : Rs :=
 o.call (C 10 [(.int .u64 1)] H) fun a b =>
 o.bstore 0 1 (.box [.slice nilSl]) a fun c =>
 o.resc 1 true (.box c) fun d =>
 some (d, b)
def f69_j7 (o : Ops) (K : Nat) (C : CallC) (a : SV -> SV -> SV -> SV -> SV -> SV -> SV -> SV -> Heap -> Rs) (b c d e f g h i : SV) (j : Heap) : Rs :=
 o.sub i (.int .i64 1) fun k =>
 a b c d e f g h k j
def f69_j11 (o : Ops) (K : Nat) (C : CallC) (c : SV -> SV -> SV -> SV -> SV -> SV -> SV -> SV -> SV -> SV -> SV -> SV -> Heap -> Rs) (d e f g h i j k a b l m n : SV) (p : Heap) : Rs :=
 o.conv .u32 b fun q =>
 o.idx 1 a l fun r =>
 o.store 1 r q p fun s =>
 o.shr b (.int .u64 32) fun t =>
 o.add n (.int .i64 1) fun u =>
 c d e f g h i j k a t m u s
def f69_l9 (o : Ops) (K : Nat) (C : CallC) (p : SV -> SV -> SV -> SV -> SV -> SV -> SV -> SV -> Heap -> Rs) : SV -> SV -> SV -> SV -> SV -> SV -> SV -> SV -> SV -> SV -> SV -> SV -> Heap -> (SV -> SV -> SV -> SV -> SV -> SV -> SV -> SV -> SV -> SV -> SV -> SV -> Heap -> Rs) -> Rs := fun e f c g d h i j k q l a b m =>
 o.lss a l fun r =>
 (o.cond r
 (o.idx 1 k a fun s =>
 o.load 1 false s b fun t =>
 o.conv .u64 t fun u =>
 o.add q u fun n =>
 o.lss a c fun v =>
 (o.cond v
 (o.idx 1 d a fun w =>
 o.load 1 false w b fun x =>
 o.conv .u64 x fun y =>
 o.add n y fun z =>
 (f69_j11 o K C m e f c g d h i j k z a l a b))
 ((f69_j11 o K C m e f c g d h i j k n a l a b))))
 ((f69_j7 o K C p e f c g d h i j b)))
def f69_j6 (o : Ops) (K : Nat) (C : CallC) (h : SV -> SV -> SV -> SV -> SV -> SV -> SV -> SV -> Heap -> Rs) (i j b k d e c a f : SV) (l : Heap) : Rs :=
 o.add a b fun n =>
 o.add n (.int .i64 1) fun p =>
 o.add a b fun q =>
 o.add q (.int .i64 1) fun r =>
 o.slice111 1 e a p r l fun g =>
 o.conv .u32 f fun s =>
 o.call (C 82 [g, d, s] l) fun t m =>
 o.u_not t fun u =>
 (o.cond u
 (o.conv .u32 f fun v =>
 o.idx 1 c a fun w =>
 o.store 1 w v m fun x =>
 (f69_j7 o K C h i j b k d e c a x))
 (o.conv .u32 f fun y =>
 o.sub y (.int .u32 1) fun z =>
 o.idx 1 c a fun A =>
 o.store 1 A z m fun B =>
 o.len g fun D =>
 (o.loop12 (f69_l9 o K C h) K i j b k d e c a g (.int .u64 0) D (.int .i64 0) B)))
def f69_j4 (o : Ops) (K : Nat) (C : CallC) (j : SV -> SV -> SV -> SV -> SV -> SV -> SV -> SV -> Heap -> Rs) (n : SV -> SV -> SV -> SV -> SV -> SV -> SV -> SV -> SV -> SV -> Heap -> Rs) (d e a f b g h i k p q : SV) (c : Heap) : Rs :=
 (o.cond q
 (o.sub k (.int .u64 1) fun l =>
 o.sub a (.int .i64 1) fun r =>
 o.idx 1 b r fun s =>
 o.load 1 false s c fun t =>
 o.conv .u64 t fun u =>
 o.add p u fun m =>
 o.shr m (.int .u64 32) fun v =>
 o.neq v (.int .u64 0) fun w =>
 (o.cond w
 ((f69_j6 o K C j d e a f b g h i l c))
 (n d e a f b g h i l m c)))
 ((f69_j6 o K C j d e a f b g h i k c)))
def f69_l3 (o : Ops) (K : Nat) (C : CallC) (h : SV -> SV -> SV -> SV -> SV -> SV -> SV -> SV -> Heap -> Rs) : SV -> SV -> SV -> SV -> SV -> SV -> SV -> SV -> SV -> SV -> Heap -> (SV -> SV -> SV -> SV -> SV -> SV -> SV -> SV -> SV -> SV -> Heap -> Rs) -> Rs := fun i j a k d e l f b g c m =>
 o.shr b (.int .u64 32) fun n =>
 o.neq n (.int .u64 0) fun p =>
 (o.guard p
 ((f69_j4 o K C h m i j a k d e l f b g (.bool true) c))
 (o.sub a (.int .i64 2) fun q =>
 o.idx 1 d q fun r =>
 o.load 1 false r c fun s =>
 o.conv .u64 s fun t =>
 o.mul b t fun u =>
 o.shl g (.int .u64 32) fun v =>
 o.add f a fun w =>
 o.sub w (.int .i64 2) fun x =>
 o.idx 1 e x fun y =>
 o.load 1 false y c fun z =>
 o.conv .u64 z fun A =>
 o.or v A fun B =>
 o.gtr u B fun D =>
 (f69_j4 o K C h m i j a k d e l f b g D c))
 (none))
def f69_l1 (o : Ops) (K : Nat) (C : CallC) : SV -> SV -> SV -> SV -> SV -> SV -> SV -> SV -> Heap -> (SV -> SV -> SV -> SV -> SV -> SV -> SV -> SV -> Heap -> Rs) -> Rs := fun f g b h e c i d a k =>
 o.geq d (.int .i64 0) fun l =>
 (o.cond l
 (o.add d b fun m =>
 o.idx 1 c m fun n =>
 o.load 1 false n a fun p =>
 o.conv .u64 p fun q =>
 o.shl q (.int .u64 32) fun r =>
 o.add d b fun s =>
 o.sub s (.int .i64 1) fun t =>
 o.idx 1 c t fun u =>
 o.load 1 false u a fun v =>
 o.conv .u64 v fun w =>
 o.or r w fun j =>
 o.sub b (.int .i64 1) fun x =>
 o.idx 1 e x fun y =>
 o.load 1 false y a fun z =>
 o.conv .u64 z fun A =>
 o.quo j A fun B =>
 o.sub b (.int .i64 1) fun D =>
 o.idx 1 e D fun E =>
 o.load 1 false E a fun F =>
 o.conv .u64 F fun G =>
 o.rem j G fun I =>
 (o.loop10 (f69_l3 o K C k) K f g b h e c i d B I a))
 (o.call (C 30 [i] a) fun J L =>
 o.call (C 83 [c, h] L) fun M N =>
 o.bstore 0 1 f J fun P =>
 o.bstore 0 1 g M fun Q =>
 o.resc 1 true (.box P) fun S =>
 o.resc 1 true (.box Q) fun T =>
 some (.tuple [S, T], N)))
def f69 (o : Ops) (K : Nat) (C : CallC) (g h : SV) (H : Heap) : Rs :=
 o.bbox g fun b =>
 o.bbox h fun a =>
 o.lfld 0 (.box a) fun i =>
 o.lloadp 1 false (.box a) i fun j =>
 o.len j fun c =>
 o.lfld 0 (.box a) fun k =>
 o.lloadp 1 false (.box a) k fun l =>
 o.lfld 0 (.box a) fun m =>
 o.lloadp 1 false (.box a) m fun n =>
 o.len n fun p =>
 o.sub p (.int .i64 1) fun q =>
 o.idx 1 l q fun r =>
 o.load 1 false r H fun s =>
 o.call (C 80 [s] H) fun d t =>
 o.lfld 0 (.box a) fun u =>
 o.lloadp 1 false (.box a) u fun v =>
 o.call (C 81 [v, d, c] t) fun w x =>
 o.lfld 0 (.box b) fun y =>
 o.lloadp 1 false (.box b) y fun z =>
 o.lfld 0 (.box b) fun A =>
 o.lloadp 1 false (.box b) A fun B =>
 o.len B fun D =>
 o.add D (.int .i64 1) fun E =>
 o.call (C 81 [z, d, E] x) fun f F =>
 o.len f fun G =>
 o.sub G c fun e =>
 o.make 1 4 [.int .u32 0] e e F fun I J =>
 o.sub e (.int .i64 1) fun L =>
 (o.loop8 (f69_l1 o K C) K (.box [.slice nilSl]) (.box [.slice nilSl]) c d w f I L J)
def f70_j2 (o : Ops) (K : Nat) (C : CallC) (a b d : SV) (e : Heap) : Rs :=
 o.lfld 1 a fun f =>
 o.lloadp 1 true a f fun g =>
 o.lfld 1 b fun h =>
 o.lloadp 1 true b h fun i =>
 o.call (C 73 [g, i] e) fun c j =>
 o.ext 0 c fun k =>
 o.ext 1 c fun l =>
 o.bstore 0 1 (.box [.slice nilSl]) k fun m =>
 o.lfld 0 a fun n =>
 o.lloadp 1 false a n fun p =>
 o.lload 0 1 true (.box m) fun q =>
 o.call (C 18 [p, q] j) fun r s =>
 o.bstore 0 2 d r fun t =>
 o.resc 2 true (.box t) fun u =>
 o.rest l fun v =>
 some (.tuple [u, v], s)
def f70 (o : Ops) (K : Nat) (C : CallC) (e f : SV) (H : Heap) : Rs :=
 o.bbox e fun a =>
 o.bbox f fun b =>
 o.lfld 0 (.box a) fun g =>
 o.lloadp 1 false (.box a) g fun h =>
 o.lfld 0 (.box b) fun i =>
 o.lloadp 1 false (.box b) i fun j =>
 o.b_eql h j fun k =>
 (o.cond k
 (o.lfld 1 (.box a) fun l =>
 o.lloadp 1 true (.box a) l fun m =>
 o.lfld 1 (.box b) fun n =>
 o.lloadp 1 true (.box b) n fun p =>
 o.call (C 67 [m, p] H) fun c q =>
 o.ext 0 c fun r =>
 o.ext 1 c fun s =>
 o.bstore 0 1 (.box [.slice nilSl]) r fun t =>
 o.lfld 0 (.box a) fun u =>
 o.lloadp 1 false (.box a) u fun v =>
 o.lload 0 1 true (.box t) fun w =>
 o.call (C 18 [v, w] q) fun x y =>
 o.bstore 0 2 (.box [.bool false, .slice nilSl]) x fun z =>
 o.resc 2 true (.box z) fun A =>
 o.rest s fun B =>
 some (.tuple [A, B], y))
 (o.lfld 1 (.box a) fun D =>
 o.lloadp 1 true (.box a) D fun E =>
 o.lfld 1 (.box b) fun F =>
 o.lloadp 1 true (.box b) F fun G =>
 o.call (C 11 [E, G] H) fun I d =>
 o.lss I (.int .i64 0) fun J =>
 (o.cond J
 (o.lload 0 2 true (.box b) fun L =>
 o.lload 0 2 true (.box a) fun M =>
 o.bstore 0 2 (.box a) L fun N =>
 o.bstore 0 2 (.box b) M fun P =>
 (f70_j2 o K C (.box N) (.box P) (.box [.bool false, .slice nilSl]) d))
 ((f70_j2 o K C (.box a) (.box b) (.box [.bool false, .slice nilSl]) d)))))
def f71_j3 (o : Ops) (K : Nat) (C : CallC) (a b c d e f : SV) (g : Heap) : Rs :=
 o.lfld 0 a fun h =>
 o.lloadp 1 false a h fun i =>
 o.lfld 0 b fun j =>
 o.lloadp 1 false b j fun k =>
 o.b_neq i k fun l =>
 o.lload 0 1 true e fun m =>
 o.call (C 18 [l, m] g) fun n p =>
 o.lload 0 1 true f fun q =>
 o.call (C 18 [(.bool false), q] p) fun r s =>
 o.bstore 0 2 c n fun t =>
 o.bstore 0 2 d r fun u =>
 o.resc 2 true (.box t) fun v =>
 o.resc 2 true (.box u) fun w =>
 some (.tuple [v, w, (.int .i64 0)], s)
def f71_j2 (o : Ops) (K : Nat) (C : CallC) (d a e f b c j : SV) (g : Heap) : Rs :=
 (o.cond j
 (o.lload 0 1 true b fun k =>
 o.call (C 10 [(.int .u64 1)] g) fun l m =>
 o.call (C 67 [k, l] m) fun h n =>
 o.ext 0 h fun p =>
 o.ext 1 h fun x =>
 o.bstore 0 1 b p fun q =>
 o.lfld 1 a fun r =>
 o.lloadp 1 true a r fun s =>
 o.lload 0 1 true c fun t =>
 o.call (C 73 [s, t] n) fun i u =>
 o.ext 0 i fun v =>
 o.ext 1 i fun y =>
 o.bstore 0 1 c v fun w =>
 (f71_j3 o K C d a e f (.box q) (.box w) u))
 ((f71_j3 o K C d a e f b c g)))
def f71 (o : Ops) (K : Nat) (C : CallC) (h i : SV) (H : Heap) : Rs :=
 o.bbox h fun a =>
 o.bbox i fun b =>
 o.lfld 1 (.box a) fun j =>
 o.lloadp 1 true (.box a) j fun k =>
 o.lfld 1 (.box b) fun l =>
 o.lloadp 1 true (.box b) l fun m =>
 o.call (C 40 [k, m] H) fun c d =>
 o.ext 0 c fun n =>
 o.ext 1 c fun p =>
 o.ext 2 c fun f =>
 o.bstore 0 1 (.box [.slice nilSl]) n fun g =>
 o.bstore 0 1 (.box [.slice nilSl]) p fun e =>
 o.neq f (.int .i64 0) fun q =>
 (o.cond q
 (o.build [.bool false, .slice nilSl] [] [] fun r =>
 o.build [.bool false, .slice nilSl] [] [] fun s =>
 o.bstore 0 2 (.box [.bool false, .slice nilSl]) r fun t =>
 o.bstore 0 2 (.box [.bool false, .slice nilSl]) s fun u =>
 o.resc 2 true (.box t) fun v =>
 o.resc 2 true (.box u) fun w =>
 o.rest f fun x =>
 some (.tuple [v, w, x], d))
 (o.lfld 0 (.box a) fun y =>
 o.lloadp 1 false (.box a) y fun z =>
 (o.guard z
 (o.lload 0 1 true (.box e) fun A =>
 o.call (C 7 [A] d) fun B D =>
 o.gtr B (.int .i64 0) fun E =>
 (f71_j2 o K C (.box a) (.box b) (.box [.bool false, .slice nilSl]) (.box [.bool false, .slice nilSl]) (.box g) (.box e) E D))
 ((f71_j2 o K C (.box a) (.box b) (.box [.bool false, .slice nilSl]) (.box [.bool false, .slice nilSl]) (.box g) (.box e) (.bool false) d))
 (none))))
def f72_l3 (o : Ops) (K : Nat) (C : CallC) (j : SV -> SV -> SV -> SV -> SV -> Heap -> Rs) : SV -> SV -> SV -> SV -> SV -> SV -> SV -> SV -> Heap -> (SV -> SV -> SV -> SV -> SV -> SV -> SV -> SV -> Heap -> Rs) -> Rs := fun c d e f g h i a b k =>
 o.lss a i fun l =>
 (o.cond l
 (o.idx 2 h a fun m =>
 o.load 2 true m b fun n =>
 o.bstore 0 2 (.box [.bool false, .slice nilSl]) n fun p =>
 o.lload 0 2 true (.box p) fun q =>
 o.call (C 63 [q] b) fun r s =>
 o.call (C 7 [r] s) fun t u =>
 o.max [d, t] fun v =>
 o.add a (.int .i64 1) fun w =>
 k c v e f g h i w u)
 (o.add g (.int .i64 1) fun x =>
 j c d e f x b))
def f72_l1 (o : Ops) (K : Nat) (C : CallC) : SV -> SV -> SV -> SV -> SV -> Heap -> (SV -> SV -> SV -> SV -> SV -> Heap -> Rs) -> Rs := fun c d e f a b j =>
 o.lss a f fun k =>
 (o.cond k
 (o.idx 1 e a fun l =>
 o.load 1 false l b fun g =>
 o.len g fun m =>
 (o.loop8 (f72_l3 o K C j) K c d e f a g m (.int .i64 0) b))
 (o.lload 0 1 true c fun n =>
 o.call (C 57 [n] b) fun h p =>
 o.ext 0 h fun q =>
 o.ext 1 h fun r =>
 o.min [q, r] fun i =>
 o.mul (.int .i64 2) i fun s =>
 o.conv .u64 i fun t =>
 o.call (C 84 [t] p) fun u v =>
 o.add d u fun w =>
 o.mul s w fun x =>
 o.gtr x (.int .i64 4096) fun y =>
 o.rest y fun z =>
 some (z, v)))
def f72 (o : Ops) (K : Nat) (C : CallC) (c : SV) (H : Heap) : Rs :=
 o.bbox c fun a =>
 o.lfld 0 (.box a) fun d =>
 o.lloadp 1 false (.box a) d fun b =>
 o.len b fun e =>
 (o.loop5 (f72_l1 o K C) K (.box a) (.int .i64 0) b e (.int .i64 0) H)
def f73 (o : Ops) (K : Nat) (C : CallC) (f g : SV) (H : Heap) : Rs :=
 o.bbox f fun a =>
 o.bbox g fun b =>
 o.lload 0 1 true (.box a) fun h =>
 o.lload 0 1 true (.box b) fun i =>
 o.call (C 11 [h, i] H) fun j d =>
 o.lss j (.int .i64 0) fun k =>
 (o.cond k
 (o.build [.slice nilSl] [] [] fun l =>
 o.bstore 0 1 (.box [.slice nilSl]) l fun m =>
 o.resc 1 true (.box m) fun n =>
 some (.tuple [n, (.int .i64 10)], d))
 (o.lfld 0 (.box a) fun p =>
 o.lloadp 1 false (.box a) p fun q =>
 o.len q fun e =>
 o.make 1 4 [.int .u32 0] e e d fun c r =>
 o.lfld 0 (.box a) fun s =>
 o.lloadp 1 false (.box a) s fun t =>
 o.copy 1 c t r fun D u =>
 o.lfld 0 (.box b) fun v =>
 o.lloadp 1 false (.box b) v fun w =>
 o.call (C 85 [c, w] u) fun E x =>
 o.call (C 30 [c] x) fun y z =>
 o.bstore 0 1 (.box [.slice nilSl]) y fun A =>
 o.resc 1 true (.box A) fun B =>
 some (.tuple [B, (.int .i64 0)], z)))
def f74_l3 (o : Ops) (K : Nat) (C : CallC) (p : SV -> SV -> SV -> SV -> SV -> SV -> Heap -> Rs) : SV -> SV -> SV -> SV -> SV -> SV -> SV -> SV -> SV -> Heap -> (SV -> SV -> SV -> SV -> SV -> SV -> SV -> SV -> SV -> Heap -> Rs) -> Rs := fun e f h b c i j k a d q =>
 o.lss a k fun r =>
 (o.cond r
 (o.idx 1 b c fun l =>
 o.load 1 false l d fun s =>
 o.lload 0 1 true e fun t =>
 o.call (C 35 [t, c, a] d) fun u m =>
 o.idx 2 s a fun v =>
 o.store 2 v u m fun g =>
 (o.same l d m (o.idx 1 b c fun w =>
 o.load 1 false w g fun x =>
 o.idx 2 x a fun y =>
 o.load 2 true y g fun z =>
 o.call (C 63 [z] g) fun A B =>
 o.lload 0 1 true f fun D =>
 o.call (C 11 [A, D] B) fun E n =>
 o.gtr E (.int .i64 0) fun F =>
 (o.cond F
 (some (.tuple [(.slice nilSl), (.bool false)], n))
 (o.add a (.int .i64 1) fun G =>
 q e f h b c i j k G n)))))
 (o.add j (.int .i64 1) fun I =>
 p e f h b i I d))
def f74_l1 (o : Ops) (K : Nat) (C : CallC) : SV -> SV -> SV -> SV -> SV -> SV -> Heap -> (SV -> SV -> SV -> SV -> SV -> SV -> Heap -> Rs) -> Rs := fun f g a c d b e h =>
 o.lss b d fun i =>
 (o.cond i
 (o.make 2 32 [.bool false, .slice nilSl] a a e fun j k =>
 o.idx 1 c b fun l =>
 o.store 1 l j k fun m =>
 (o.loop9 (f74_l3 o K C h) K f g a c b d b a (.int .i64 0) m))
 (o.rest c fun n =>
 some (.tuple [n, (.bool true)], e)))
def f74 (o : Ops) (K : Nat) (C : CallC) (e : SV) (H : Heap) : Rs :=
 o.bbox e fun a =>
 o.call (C 10 [(.int .u64 2147483648)] H) fun f g =>
 o.bstore 0 1 (.box [.slice nilSl]) f fun h =>
 o.lload 0 1 true (.box a) fun i =>
 o.call (C 57 [i] g) fun b j =>
 o.ext 0 b fun c =>
 o.ext 1 b fun k =>
 o.make 1 24 [.slice nilSl] c c j fun d l =>
 o.len d fun m =>
 (o.loop6 (f74_l1 o K C) K (.box a) (.box h) k d m (.int .i64 0) l)
def f75_j5 (o : Ops) (K : Nat) (C : CallC) (b : SV -> SV -> SV -> SV -> SV -> SV -> SV -> Heap -> Rs) (c d e f g h i j : SV) (a : Heap) : Rs :=
 (o.cond j
 (some ((.bool false), a))
 (o.add i (.int .i64 1) fun k =>
 b c d e f g h k a))
def f75_l3 (o : Ops) (K : Nat) (C : CallC) (j : SV -> SV -> SV -> Heap -> Rs) : SV -> SV -> SV -> SV -> SV -> SV -> SV -> Heap -> (SV -> SV -> SV -> SV -> SV -> SV -> SV -> Heap -> Rs) -> Rs := fun c d e f g h a b i =>
 o.lss a h fun k =>
 (o.cond k
 (o.neq c a fun l =>
 (o.guard l
 (o.idx 2 d a fun m =>
 o.load 2 true m b fun n =>
 o.call (C 47 [n] b) fun p q =>
 o.neq p (.int .i64 0) fun r =>
 (f75_j5 o K C i c d e f g h a r q))
 ((f75_j5 o K C i c d e f g h a (.bool false) b))
 (none)))
 (o.add g (.int .i64 1) fun s =>
 j e f s b))
def f75_l1 (o : Ops) (K : Nat) (C : CallC) : SV -> SV -> SV -> Heap -> (SV -> SV -> SV -> Heap -> Rs) -> Rs := fun c d a b f =>
 o.lss a d fun g =>
 (o.cond g
 (o.idx 1 c a fun h =>
 o.load 1 false h b fun e =>
 o.len e fun i =>
 (o.loop7 (f75_l3 o K C f) K a e c d a i (.int .i64 0) b))
 (some ((.bool true), b)))
def f75 (o : Ops) (K : Nat) (C : CallC) (a : SV) (H : Heap) : Rs :=
 o.len a fun b =>
 (o.loop3 (f75_l1 o K C) K a b (.int .i64 0) H)
def f76_l3 (o : Ops) (K : Nat) (C : CallC) (k : SV -> SV -> SV -> SV -> Heap -> Rs) : SV -> SV -> SV -> SV -> SV -> SV -> SV -> Heap -> (SV -> SV -> SV -> SV -> SV -> SV -> SV -> Heap -> Rs) -> Rs := fun d b c f g h e a l =>
 o.lss e h fun m =>
 (o.cond m
 (o.idx 1 b c fun i =>
 o.load 1 false i a fun n =>
 o.idx 1 d e fun p =>
 o.load 1 false p a fun q =>
 o.idx 2 q c fun r =>
 o.load 2 true r a fun s =>
 o.hbuild 2 [.bool false, .slice nilSl] [(0, 2)] [s] a fun t j =>
 o.append 2 32 n t j fun u v =>
 o.idx 1 b c fun w =>
 o.store 1 w u v fun x =>
 (o.same i a j (o.add e (.int .i64 1) fun y =>
 l d b c f g h y x)))
 (o.add g (.int .i64 1) fun z =>
 k d b f z a))
def f76_l1 (o : Ops) (K : Nat) (C : CallC) : SV -> SV -> SV -> SV -> Heap -> (SV -> SV -> SV -> SV -> Heap -> Rs) -> Rs := fun b c d a e f =>
 o.lss a d fun g =>
 (o.cond g
 (o.len b fun h =>
 (o.loop7 (f76_l3 o K C f) K b c a d a h (.int .i64 0) e))
 (o.rest c fun i =>
 some (i, e)))
def f76 (o : Ops) (K : Nat) (C : CallC) (c a : SV) (H : Heap) : Rs :=
 o.make 1 24 [.slice nilSl] a a H fun b d =>
 o.len b fun e =>
 (o.loop4 (f76_l1 o K C) K c b e (.int .i64 0) d)
def f77_j7 (o : Ops) (K : Nat) (C : CallC) (a : SV -> SV -> SV -> SV -> SV -> SV -> Heap -> Rs) (b c d e f g : SV) (h : Heap) : Rs :=
 o.add g (.int .i64 1) fun i =>
 a b c d e f i h
def f77_l10 (o : Ops) (K : Nat) (C : CallC) : SV -> SV -> SV -> Heap -> (SV -> SV -> SV -> Heap -> Rs) -> Rs := fun c a b d e =>
 o.len b fun f =>
 o.len c fun g =>
 o.lss f g fun h =>
 (o.cond h
 (o.make 2 32 [.bool false, .slice nilSl] a a d fun i j =>
 o.hbuild 1 [.slice nilSl] [(0, 1)] [i] j fun k l =>
 o.append 1 24 b k l fun m n =>
 e c a m n)
 (o.rest b fun p =>
 some (p, d)))
def f77_l5 (o : Ops) (K : Nat) (C : CallC) : SV -> SV -> SV -> SV -> SV -> SV -> Heap -> (SV -> SV -> SV -> SV -> SV -> SV -> Heap -> Rs) -> Rs := fun c d e f g a b h =>
 o.lss a g fun j =>
 (o.cond j
 (o.idx 1 f a fun k =>
 o.load 1 false k b fun i =>
 o.s_neq i (.slice nilSl) fun l =>
 (o.cond l
 (o.hbuild 1 [.slice nilSl] [(0, 1)] [i] b fun m n =>
 o.append 1 24 e m n fun p q =>
 (f77_j7 o K C h c d p f g a q))
 ((f77_j7 o K C h c d e f g a b))))
 ((o.loop3 (f77_l10 o K C) K c d e b)))
def f77_l1 (o : Ops) (K : Nat) (C : CallC) : SV -> SV -> SV -> SV -> SV -> SV -> Heap -> (SV -> SV -> SV -> SV -> SV -> SV -> Heap -> Rs) -> Rs := fun b e a f g c d h =>
 o.lss c g fun i =>
 (o.cond i
 (o.idx 1 f c fun j =>
 o.load 1 false j d fun k =>
 o.call (C 86 [a, k] d) fun s l =>
 o.add c (.int .i64 1) fun m =>
 h b e a f g m l)
 (o.len b fun n =>
 o.make 1 24 [.slice nilSl] (.int .i64 0) n d fun p q =>
 o.len a fun r =>
 (o.loop6 (f77_l5 o K C) K b e p a r (.int .i64 0) q)))
def f77 (o : Ops) (K : Nat) (C : CallC) (a b : SV) (H : Heap) : Rs :=
 o.make 1 24 [.slice nilSl] b b H fun c d =>
 o.len a fun e =>
 (o.loop6 (f77_l1 o K C) K a b c a e (.int .i64 0) d)
def f78 (o : Ops) (K : Nat) (C : CallC) (k l : SV) (H : Heap) : Rs :=
 o.bbox k fun b =>
 o.bbox l fun a =>
 o.lload 0 2 true (.box a) fun m =>
 o.call (C 47 [m] H) fun n e =>
 o.eql n (.int .i64 0) fun p =>
 (o.cond p
 (o.lfld 1 (.box b) fun q =>
 o.lloadp 1 true (.box b) q fun r =>
 o.lload 0 2 true (.box b) fun s =>
 o.call (C 47 [s] e) fun t u =>
 o.call (C 46 [t] u) fun v w =>
 o.build [.bool false, .slice nilSl] [] [] fun x =>
 o.bstore 0 1 (.box [.slice nilSl]) r fun y =>
 o.bstore 0 2 (.box [.bool false, .slice nilSl]) v fun z =>
 o.bstore 0 2 (.box [.bool false, .slice nilSl]) x fun A =>
 o.resc 1 true (.box y) fun B =>
 o.resc 2 true (.box z) fun D =>
 o.resc 2 true (.box A) fun E =>
 some (.tuple [B, D, E], w))
 (o.lfld 1 (.box b) fun F =>
 o.lloadp 1 true (.box b) F fun G =>
 o.lfld 1 (.box a) fun I =>
 o.lloadp 1 true (.box a) I fun J =>
 o.call (C 41 [G, J] e) fun L M =>
 o.bstore 0 1 (.box [.slice nilSl]) L fun d =>
 o.lload 0 1 true (.box d) fun N =>
 o.call (C 18 [(.bool false), N] M) fun P Q =>
 o.bstore 0 2 (.box [.bool false, .slice nilSl]) P fun f =>
 o.lload 0 2 true (.box b) fun S =>
 o.lload 0 2 true (.box f) fun T =>
 o.call (C 50 [S, T] Q) fun g U =>
 o.ext 0 g fun V =>
 o.ext 1 g fun W =>
 o.call (C 88 [V, W] U) fun X Y =>
 o.lfld 1 (.box a) fun Z =>
 o.lloadp 1 true (.box a) Z fun aa =>
 o.call (C 18 [(.bool false), aa] Y) fun ab ac =>
 o.lload 0 2 true (.box f) fun ad =>
 o.call (C 50 [ab, ad] ac) fun h ae =>
 o.ext 0 h fun af =>
 o.ext 1 h fun ag =>
 o.call (C 88 [af, ag] ae) fun ah ai =>
 o.call (C 87 [X, ah] ai) fun i aj =>
 o.ext 0 i fun ak =>
 o.ext 1 i fun al =>
 o.bstore 0 2 (.box [.bool false, .slice nilSl]) ak fun j =>
 o.bstore 0 2 (.box [.bool false, .slice nilSl]) al fun c =>
 o.lload 0 1 true (.box d) fun am =>
 o.lload 0 2 true (.box j) fun an =>
 o.lfld 0 (.box c) fun ap =>
 o.lloadp 1 false (.box c) ap fun aq =>
 o.lfld 0 (.box a) fun ar =>
 o.lloadp 1 false (.box a) ar fun as =>
 o.b_neq aq as fun au =>
 o.lfld 1 (.box c) fun av =>
 o.lloadp 1 true (.box c) av fun aw =>
 o.call (C 18 [au, aw] aj) fun ax ay =>
 o.bstore 0 1 (.box d) am fun az =>
 o.bstore 0 2 (.box j) an fun aA =>
 o.bstore 0 2 (.box c) ax fun aB =>
 o.resc 1 true (.box az) fun aD =>
 o.resc 2 true (.box aA) fun aE =>
 o.resc 2 true (.box aB) fun aF =>
 some (.tuple [aD, aE, aF], ay)))
def f79 (o : Ops) (K : Nat) (C : CallC) (a f : SV) (H : Heap) : Rs :=
 o.bbox a fun b =>
 o.lload 0 2 true (.box b) fun c =>
 o.bstore 0 2 (.box [.bool false, .slice nilSl]) c fun d =>
 o.resc 2 true (.box d) fun e =>
 some (e, H)
def f80 (o : Ops) (K : Nat) (C : CallC) (a : SV) (H : Heap) : Rs :=
 o.call (C 22 [a] H) fun b c =>
 o.sub (.int .i64 32) b fun d =>
 o.rest d fun e =>
 some (e, c)
def f81_j3 (o : Ops) (K : Nat) (C : CallC) (c : SV -> SV -> SV -> SV -> SV -> SV -> Heap -> Rs) (d e a b f g h : SV) (i : Heap) : Rs :=
 o.conv .u32 b fun j =>
 o.idx 1 a f fun k =>
 o.store 1 k j i fun l =>
 o.shr b (.int .u64 32) fun m =>
 o.add h (.int .i64 1) fun n =>
 c d e a m g n l
def f81_l1 (o : Ops) (K : Nat) (C : CallC) : SV -> SV -> SV -> SV -> SV -> SV -> Heap -> (SV -> SV -> SV -> SV -> SV -> SV -> Heap -> Rs) -> Rs := fun b d e g f a c h =>
 o.lss a f fun i =>
 (o.cond i
 (o.len b fun j =>
 o.lss a j fun k =>
 (o.cond k
 (o.idx 1 b a fun l =>
 o.load 1 false l c fun m =>
 o.conv .u64 m fun n =>
 o.shl n d fun p =>
 o.or g p fun q =>
 (f81_j3 o K C h b d e q a f a c))
 ((f81_j3 o K C h b d e g a f a c))))
 (o.rest e fun r =>
 some (r, c)))
def f81 (o : Ops) (K : Nat) (C : CallC) (c d a : SV) (H : Heap) : Rs :=
 o.make 1 4 [.int .u32 0] a a H fun b e =>
 o.len b fun f =>
 (o.loop6 (f81_l1 o K C) K c d b (.int .u64 0) f (.int .i64 0) e)
def f82_j3 (o : Ops) (K : Nat) (C : CallC) (f : SV -> SV -> SV -> SV -> SV -> SV -> SV -> Heap -> Rs) (a g h b i c j k : SV) (d : Heap) : Rs :=
 o.idx 1 a c fun l =>
 o.load 1 false l d fun m =>
 o.conv .u32 b fun n =>
 o.call (C 89 [m, n, i] d) fun e p =>
 o.ext 0 e fun q =>
 o.ext 1 e fun r =>
 o.idx 1 a c fun s =>
 o.store 1 s q p fun t =>
 o.shr b (.int .u64 32) fun u =>
 o.add k (.int .i64 1) fun v =>
 f a g h u r j v t
def f82_l1 (o : Ops) (K : Nat) (C : CallC) : SV -> SV -> SV -> SV -> SV -> SV -> SV -> Heap -> (SV -> SV -> SV -> SV -> SV -> SV -> SV -> Heap -> Rs) -> Rs := fun g b d h e f a c i =>
 o.lss a f fun j =>
 (o.cond j
 (o.len b fun k =>
 o.lss a k fun l =>
 (o.cond l
 (o.idx 1 b a fun m =>
 o.load 1 false m c fun n =>
 o.conv .u64 n fun p =>
 o.conv .u64 d fun q =>
 o.mul p q fun r =>
 o.add h r fun s =>
 (f82_j3 o K C i g b d s e a f a c))
 ((f82_j3 o K C i g b d h e a f a c))))
 (o.neq e (.int .u32 0) fun t =>
 o.rest t fun u =>
 some (u, c)))
def f82 (o : Ops) (K : Nat) (C : CallC) (a b c : SV) (H : Heap) : Rs :=
 o.len a fun d =>
 (o.loop7 (f82_l1 o K C) K a b c (.int .u64 0) (.int .u32 0) d (.int .i64 0) H)
def f83_j3 (o : Ops) (K : Nat) (C : CallC) (c : SV -> SV -> SV -> SV -> SV -> SV -> Heap -> Rs) (d a e b f g h i : SV) (j : Heap) : Rs :=
 o.shr g a fun k =>
 o.conv .u32 k fun l =>
 o.idx 1 b f fun m =>
 o.store 1 m l j fun n =>
 o.add i (.int .i64 1) fun p =>
 c d a e b h p n
def f83_l1 (o : Ops) (K : Nat) (C : CallC) : SV -> SV -> SV -> SV -> SV -> SV -> Heap -> (SV -> SV -> SV -> SV -> SV -> SV -> Heap -> Rs) -> Rs := fun b g d e f a c h =>
 o.lss a f fun j =>
 (o.cond j
 (o.idx 1 b a fun k =>
 o.load 1 false k c fun l =>
 o.conv .u64 l fun i =>
 o.add a (.int .i64 1) fun m =>
 o.len b fun n =>
 o.lss m n fun p =>
 (o.cond p
 (o.add a (.int .i64 1) fun q =>
 o.idx 1 b q fun r =>
 o.load 1 false r c fun s =>
 o.conv .u64 s fun t =>
 o.shl t (.int .u64 32) fun u =>
 o.or i u fun v =>
 (f83_j3 o K C h b g d e a v f a c))
 ((f83_j3 o K C h b g d e a i f a c))))
 (o.call (C 30 [e] c) fun w x =>
 o.bstore 0 1 d w fun y =>
 o.resc 1 true (.box y) fun z =>
 some (z, x)))
def f83 (o : Ops) (K : Nat) (C : CallC) (a c : SV) (H : Heap) : Rs :=
 o.len a fun b =>
 o.make 1 4 [.int .u32 0] b b H fun d e =>
 o.len a fun f =>
 (o.loop6 (f83_l1 o K C) K a c (.box [.slice nilSl]) d f (.int .i64 0) e)
def f84 (o : Ops) (K : Nat) (C : CallC) (a : SV) (H : Heap) : Rs :=
 o.call (C 90 [a] H) fun b c =>
 o.rest b fun d =>
 some (d, c)
def f85_j3 (o : Ops) (K : Nat) (C : CallC) (e : SV -> SV -> SV -> SV -> SV -> Heap -> Rs) (a f g b h i j : SV) (c : Heap) : Rs :=
 o.idx 1 a b fun k =>
 o.load 1 false k c fun l =>
 o.call (C 89 [l, h, g] c) fun d m =>
 o.ext 0 d fun n =>
 o.ext 1 d fun p =>
 o.idx 1 a b fun q =>
 o.store 1 q n m fun r =>
 o.add j (.int .i64 1) fun s =>
 e a f p i s r
def f85_j5 (o : Ops) (K : Nat) (C : CallC) (a : Heap) : Rs :=
 some (.tuple [], a)
def f85_l1 (o : Ops) (K : Nat) (C : CallC) : SV -> SV -> SV -> SV -> SV -> Heap -> (SV -> SV -> SV -> SV -> SV -> Heap -> Rs) -> Rs := fun f c d e a b g =>
 o.lss a e fun h =>
 (o.cond h
 (o.len c fun i =>
 o.lss a i fun j =>
 (o.cond j
 (o.idx 1 c a fun k =>
 o.load 1 false k b fun l =>
 (f85_j3 o K C g f c d a l e a b))
 (o.eql d (.int .u32 0) fun m =>
 (o.cond m
 ((f85_j5 o K C b))
 ((f85_j3 o K C g f c d a (.int .u32 0) e a b))))))
 ((f85_j5 o K C b)))
def f85 (o : Ops) (K : Nat) (C : CallC) (a b : SV) (H : Heap) : Rs :=
 o.len a fun c =>
 (o.loop5 (f85_l1 o K C) K a b (.int .u32 0) c (.int .i64 0) H)
def f86_j3 (o : Ops) (K : Nat) (C : CallC) (a : SV -> SV -> SV -> SV -> Heap -> Rs) (b c d e : SV) (f : Heap) : Rs :=
 o.add e (.int .i64 1) fun g =>
 a b c d g f
def f86_j9 (o : Ops) (K : Nat) (C : CallC) (a : SV -> SV -> Heap -> Rs) (b c : SV) (d : Heap) : Rs :=
 o.sub c (.int .i64 1) fun e =>
 a b e d
def f86_l7 (o : Ops) (K : Nat) (C : CallC) : SV -> SV -> Heap -> (SV -> SV -> Heap -> Rs) -> Rs := fun b a c d =>
 o.geq a (.int .i64 0) fun e =>
 (o.cond e
 (o.idx 1 b a fun f =>
 o.load 1 false f c fun g =>
 o.s_neq g (.slice nilSl) fun h =>
 (o.cond h
 (o.idx 1 b a fun i =>
 o.load 1 false i c fun j =>
 o.add a (.int .i64 1) fun k =>
 o.call (C 92 [b, j, k] c) fun l m =>
 o.idx 1 b a fun n =>
 o.store 1 n l m fun p =>
 (f86_j9 o K C d b a p))
 ((f86_j9 o K C d b a c))))
 (some (.tuple [], c)))
def f86_j6 (o : Ops) (K : Nat) (C : CallC) (a : SV) (b : Heap) : Rs :=
 o.len a fun c =>
 o.sub c (.int .i64 1) fun d =>
 (o.loop2 (f86_l7 o K C) K a d b)
def f86_j5 (o : Ops) (K : Nat) (C : CallC) (a c b : SV) (d : Heap) : Rs :=
 o.add b (.int .i64 1) fun e =>
 o.call (C 92 [a, c, e] d) fun f g =>
 o.idx 1 a b fun h =>
 o.store 1 h f g fun i =>
 (f86_j6 o K C a i)
def f86_l1 (o : Ops) (K : Nat) (C : CallC) : SV -> SV -> SV -> SV -> Heap -> (SV -> SV -> SV -> SV -> Heap -> Rs) -> Rs := fun b c f a g m =>
 o.lss a f fun s =>
 (o.cond s
 (o.idx 2 c a fun t =>
 o.load 2 true t g fun u =>
 o.call (C 47 [u] g) fun v d =>
 o.eql v (.int .i64 0) fun w =>
 (o.cond w
 ((f86_j3 o K C m b c f a d))
 (o.idx 1 b a fun x =>
 o.load 1 false x d fun y =>
 o.s_eql y (.slice nilSl) fun z =>
 (o.cond z
 (o.idx 2 c a fun A =>
 o.load 2 true A d fun B =>
 o.call (C 47 [B] d) fun D n =>
 o.lss D (.int .i64 0) fun E =>
 (o.cond E
 (o.call (C 46 [(.int .i64 (-1))] n) fun F G =>
 o.build [.bool false, .slice nilSl] [] [] fun I =>
 o.call (C 91 [F, c, I, c] G) fun J L =>
 (f86_j5 o K C b J a L))
 ((f86_j5 o K C b c a n))))
 (o.idx 1 b a fun M =>
 o.load 1 false M d fun e =>
 o.idx 2 e a fun N =>
 o.load 2 true N d fun P =>
 o.idx 2 c a fun Q =>
 o.load 2 true Q d fun S =>
 o.call (C 78 [P, S] d) fun h T =>
 o.ext 0 h fun U =>
 o.ext 1 h fun V =>
 o.ext 2 h fun W =>
 o.bstore 0 1 (.box [.slice nilSl]) U fun X =>
 o.bstore 0 2 (.box [.bool false, .slice nilSl]) V fun Y =>
 o.bstore 0 2 (.box [.bool false, .slice nilSl]) W fun Z =>
 o.lload 0 1 true (.box X) fun aa =>
 o.call (C 18 [(.bool false), aa] T) fun ab i =>
 o.bstore 0 2 (.box [.bool false, .slice nilSl]) ab fun p =>
 o.idx 2 e a fun ac =>
 o.load 2 true ac i fun ad =>
 o.lload 0 2 true (.box p) fun ae =>
 o.call (C 50 [ad, ae] i) fun q j =>
 o.ext 0 q fun af =>
 o.ext 1 q fun ag =>
 o.call (C 79 [af, ag] j) fun ah k =>
 o.idx 2 c a fun l =>
 o.load 2 true l k fun ai =>
 o.lload 0 2 true (.box p) fun aj =>
 o.call (C 50 [ai, aj] k) fun r ak =>
 o.ext 0 r fun al =>
 o.ext 1 r fun am =>
 o.call (C 79 [al, am] ak) fun an ap =>
 o.bstore 0 2 (.box [.bool false, .slice nilSl]) ah fun aq =>
 o.bstore 0 2 (.box [.bool false, .slice nilSl]) an fun ar =>
 (o.same l i j ((o.same l j k (o.lload 0 2 true (.box Y) fun as =>
 o.lload 0 2 true (.box Z) fun au =>
 o.call (C 91 [as, e, au, c] ap) fun av aw =>
 o.add a (.int .i64 1) fun ax =>
 o.call (C 92 [b, av, ax] aw) fun ay az =>
 o.idx 1 b a fun aA =>
 o.store 1 aA ay az fun aB =>
 o.lload 0 2 true (.box aq) fun aD =>
 o.lload 0 2 true (.box ar) fun aE =>
 o.call (C 61 [aE] aB) fun aF aG =>
 o.call (C 91 [aD, c, aF, e] aG) fun aI aJ =>
 o.add a (.int .i64 1) fun aL =>
 o.call (C 92 [b, aI, aL] aJ) fun aM aN =>
 (f86_j3 o K C m b aM f a aN))))))))))
 ((f86_j6 o K C b g)))
def f86 (o : Ops) (K : Nat) (C : CallC) (b a : SV) (H : Heap) : Rs :=
 o.len a fun c =>
 (o.loop4 (f86_l1 o K C) K b a c (.int .i64 0) H)
def f87_j3 (o : Ops) (K : Nat) (C : CallC) (a b c d : SV) (e : Heap) : Rs :=
 o.lload 0 2 true c fun f =>
 o.lload 0 2 true d fun g =>
 o.bstore 0 2 a f fun h =>
 o.bstore 0 2 b g fun i =>
 o.resc 2 true (.box h) fun j =>
 o.resc 2 true (.box i) fun k =>
 some (.tuple [j, k], e)
def f87_l1 (o : Ops) (K : Nat) (C : CallC) : SV -> SV -> SV -> SV -> SV -> SV -> SV -> SV -> SV -> SV -> SV -> Heap -> (SV -> SV -> SV -> SV -> SV -> SV -> SV -> SV -> SV -> SV -> SV -> Heap -> Rs) -> Rs := fun j k d e f c l a g b h s t =>
 o.lload 0 2 true c fun u =>
 o.call (C 47 [u] s) fun v m =>
 o.eql v (.int .i64 0) fun w =>
 (o.cond w
 (o.lload 0 2 true a fun x =>
 o.call (C 47 [x] m) fun y n =>
 o.lss y (.int .i64 0) fun z =>
 (o.cond z
 (o.lload 0 2 true a fun A =>
 o.lload 0 2 true k fun B =>
 o.call (C 70 [A, B] n) fun p D =>
 o.ext 0 p fun E =>
 o.ext 1 p fun F =>
 o.call (C 88 [E, F] D) fun G I =>
 o.lload 0 2 true b fun J =>
 o.lload 0 2 true j fun L =>
 o.call (C 49 [J, L] I) fun q M =>
 o.ext 0 q fun N =>
 o.ext 1 q fun P =>
 o.call (C 88 [N, P] M) fun Q S =>
 o.bstore 0 2 a G fun T =>
 o.bstore 0 2 b Q fun U =>
 (f87_j3 o K C d e (.box T) (.box U) S))
 ((f87_j3 o K C d e a b n))))
 (o.lload 0 2 true l fun V =>
 o.lload 0 2 true c fun W =>
 o.call (C 71 [V, W] m) fun i X =>
 o.ext 0 i fun Y =>
 o.ext 1 i fun Z =>
 o.ext 2 i fun ax =>
 o.bstore 0 2 (.box [.bool false, .slice nilSl]) Y fun r =>
 o.bstore 0 2 (.box [.bool false, .slice nilSl]) Z fun aa =>
 o.lload 0 2 true c fun ab =>
 o.lload 0 2 true (.box aa) fun ac =>
 o.bstore 0 2 l ab fun ad =>
 o.bstore 0 2 c ac fun ae =>
 o.lload 0 2 true g fun af =>
 o.lload 0 2 true a fun ag =>
 o.lload 0 2 true (.box r) fun ah =>
 o.lload 0 2 true g fun ai =>
 o.callv C [f, ag, ah, ai] X fun aj ak =>
 o.bstore 0 2 a af fun al =>
 o.bstore 0 2 g aj fun am =>
 o.lload 0 2 true h fun an =>
 o.lload 0 2 true b fun ap =>
 o.lload 0 2 true (.box r) fun aq =>
 o.lload 0 2 true h fun ar =>
 o.callv C [f, ap, aq, ar] ak fun as au =>
 o.bstore 0 2 b an fun av =>
 o.bstore 0 2 h as fun aw =>
 t j k d e f (.box ae) (.box ad) (.box al) (.box am) (.box av) (.box aw) au))
def f87 (o : Ops) (K : Nat) (C : CallC) (d e : SV) (H : Heap) : Rs :=
 o.bbox d fun c =>
 o.bbox e fun a =>
 o.lload 0 2 true (.box c) fun f =>
 o.lload 0 2 true (.box a) fun g =>
 o.call (C 71 [f, g] H) fun b h =>
 o.ext 0 b fun i =>
 o.ext 1 b fun j =>
 o.ext 2 b fun B =>
 o.bstore 0 2 (.box [.bool false, .slice nilSl]) i fun k =>
 o.bstore 0 2 (.box [.bool false, .slice nilSl]) j fun l =>
 o.lload 0 2 true (.box a) fun m =>
 o.build [.bool false, .slice nilSl] [] [] fun n =>
 o.call (C 46 [(.int .i64 1)] h) fun p q =>
 o.bstore 0 2 (.box [.bool false, .slice nilSl]) m fun r =>
 o.bstore 0 2 (.box [.bool false, .slice nilSl]) n fun s =>
 o.bstore 0 2 (.box [.bool false, .slice nilSl]) p fun t =>
 o.call (C 46 [(.int .i64 1)] q) fun u v =>
 o.lload 0 2 true (.box k) fun w =>
 o.call (C 61 [w] v) fun x y =>
 o.bstore 0 2 (.box [.bool false, .slice nilSl]) u fun z =>
 o.bstore 0 2 (.box [.bool false, .slice nilSl]) x fun A =>
 (o.loop11 (f87_l1 o K C) K (.box c) (.box a) (.box [.bool false, .slice nilSl]) (.box [.bool false, .slice nilSl]) (.fn 93 [] []) (.box l) (.box r) (.box s) (.box t) (.box z) (.box A) y)
def f88 (o : Ops) (K : Nat) (C : CallC) (a f : SV) (H : Heap) : Rs :=
 o.bbox a fun b =>
 o.lload 0 2 true (.box b) fun c =>
 o.bstore 0 2 (.box [.bool false, .slice nilSl]) c fun d =>
 o.resc 2 true (.box d) fun e =>
 some (e, H)
def f89 (o : Ops) (K : Nat) (C : CallC) (a b d : SV) (H : Heap) : Rs :=
 o.sub a b fun e =>
 o.sub e d fun c =>
 o.u_xor a fun f =>
 o.and f b fun g =>
 o.xor a b fun h =>
 o.u_xor h fun i =>
 o.and i c fun j =>
 o.or g j fun k =>
 o.shr k (.int .u64 31) fun l =>
 o.rest c fun m =>
 o.rest l fun n =>
 some (.tuple [m, n], H)
def f90_j3 (o : Ops) (K : Nat) (C : CallC) (a b : SV) (c : Heap) : Rs :=
 o.conv .u8 a fun d =>
 o.stridx (.str [0, 1, 2, 2, 3, 3, 3, 3, 4, 4, 4, 4, 4, 4, 4, 4, 5, 5, 5, 5, 5, 5, 5, 5, 5, 5, 5, 5, 5, 5, 5, 5, 6, 6, 6, 6, 6, 6, 6, 6, 6, 6, 6, 6, 6, 6, 6, 6, 6, 6, 6, 6, 6, 6, 6, 6, 6, 6, 6, 6, 6, 6, 6, 6, 7, 7, 7, 7, 7, 7, 7, 7, 7, 7, 7, 7, 7, 7, 7, 7, 7, 7, 7, 7, 7, 7, 7, 7, 7, 7, 7, 7, 7, 7, 7, 7, 7, 7, 7, 7, 7, 7, 7, 7, 7, 7, 7, 7, 7, 7, 7, 7, 7, 7, 7, 7, 7, 7, 7, 7, 7, 7, 7, 7, 7, 7, 7, 7, 8, 8, 8, 8, 8, 8, 8, 8, 8, 8, 8, 8, 8, 8, 8, 8, 8, 8, 8, 8, 8, 8, 8, 8, 8, 8, 8, 8, 8, 8, 8, 8, 8, 8, 8, 8, 8, 8, 8, 8, 8, 8, 8, 8, 8, 8, 8, 8, 8, 8, 8, 8, 8, 8, 8, 8, 8, 8, 8, 8, 8, 8, 8, 8, 8, 8, 8, 8, 8, 8, 8, 8, 8, 8, 8, 8, 8, 8, 8, 8, 8, 8, 8, 8, 8, 8, 8, 8, 8, 8, 8, 8, 8, 8, 8, 8, 8, 8, 8, 8, 8, 8, 8, 8, 8, 8, 8, 8, 8, 8, 8, 8, 8, 8, 8, 8, 8, 8, 8, 8, 8, 8, 8, 8, 8, 8, 8, 8]) d fun e =>
 o.conv .i64 e fun f =>
 o.add b f fun g =>
 o.rest g fun h =>
 some (h, c)
def f90_j2 (o : Ops) (K : Nat) (C : CallC) (a b : SV) (c : Heap) : Rs :=
 o.geq a (.int .u64 256) fun d =>
 (o.cond d
 (o.shr a (.int .u64 8) fun e =>
 o.add b (.int .i64 8) fun f =>
 (f90_j3 o K C e f c))
 ((f90_j3 o K C a b c)))
def f90_j1 (o : Ops) (K : Nat) (C : CallC) (a b : SV) (c : Heap) : Rs :=
 o.geq a (.int .u64 65536) fun d =>
 (o.cond d
 (o.shr a (.int .u64 16) fun e =>
 o.add b (.int .i64 16) fun f =>
 (f90_j2 o K C e f c))
 ((f90_j2 o K C a b c)))
def f90 (o : Ops) (K : Nat) (C : CallC) (a : SV) (H : Heap) : Rs :=
 o.geq a (.int .u64 4294967296) fun b =>
 (o.cond b
 (o.shr a (.int .u64 32) fun c =>
 (f90_j1 o K C c (.int .i64 32) H))
 ((f90_j1 o K C a (.int .i64 0) H)))
def f91_l1 (o : Ops) (K : Nat) (C : CallC) : SV -> SV -> SV -> SV -> SV -> SV -> SV -> Heap -> (SV -> SV -> SV -> SV -> SV -> SV -> SV -> Heap -> Rs) -> Rs := fun g h i j c k a b p =>
 o.lss a k fun q =>
 (o.cond q
 (o.lload 0 2 true i fun r =>
 o.idx 2 g a fun s =>
 o.load 2 true s b fun t =>
 o.call (C 48 [r, t] b) fun l d =>
 o.ext 0 l fun u =>
 o.ext 1 l fun v =>
 o.call (C 79 [u, v] d) fun w e =>
 o.lload 0 2 true j fun x =>
 o.idx 2 h a fun f =>
 o.load 2 true f e fun y =>
 o.call (C 48 [x, y] e) fun m z =>
 o.ext 0 m fun A =>
 o.ext 1 m fun B =>
 o.call (C 79 [A, B] z) fun D E =>
 o.call (C 70 [w, D] E) fun n F =>
 o.ext 0 n fun G =>
 o.ext 1 n fun I =>
 o.call (C 79 [G, I] F) fun J L =>
 o.idx 2 c a fun M =>
 o.store 2 M J L fun N =>
 (o.same f b d ((o.same f d e (o.add a (.int .i64 1) fun P =>
 p g h i j c k P N)))))
 (o.rest c fun Q =>
 some (Q, b)))
def f91 (o : Ops) (K : Nat) (C : CallC) (d a e f : SV) (H : Heap) : Rs :=
 o.bbox d fun g =>
 o.bbox e fun h =>
 o.len a fun b =>
 o.make 2 32 [.bool false, .slice nilSl] b b H fun c i =>
 o.len c fun j =>
 (o.loop7 (f91_l1 o K C) K a f (.box g) (.box h) c j (.int .i64 0) i)
def f92_j4 (o : Ops) (K : Nat) (C : CallC) (a : SV -> SV -> SV -> Heap -> Rs) (b c d : SV) (e : Heap) : Rs :=
 o.add d (.int .i64 1) fun f =>
 a b c f e
def f92_j6 (o : Ops) (K : Nat) (C : CallC) (a : SV -> SV -> SV -> Heap -> Rs) (b c d : SV) (e : Heap) : Rs :=
 (f92_j4 o K C a b c d e)
def f92_j3 (o : Ops) (K : Nat) (C : CallC) (e : SV -> SV -> SV -> Heap -> Rs) (b d a l : SV) (c : Heap) : Rs :=
 (o.cond l
 ((f92_j4 o K C e b d a c))
 (o.idx 2 d a fun m =>
 o.load 2 true m c fun n =>
 o.idx 1 b a fun p =>
 o.load 1 false p c fun q =>
 o.idx 2 q a fun r =>
 o.load 2 true r c fun s =>
 o.call (C 71 [n, s] c) fun f t =>
 o.ext 0 f fun u =>
 o.ext 1 f fun v =>
 o.ext 2 f fun G =>
 o.bstore 0 2 (.box [.bool false, .slice nilSl]) u fun k =>
 o.bstore 0 2 (.box [.bool false, .slice nilSl]) v fun I =>
 o.lload 0 2 true (.box k) fun w =>
 o.call (C 47 [w] t) fun x g =>
 o.neq x (.int .i64 0) fun y =>
 (o.cond y
 (o.call (C 46 [(.int .i64 1)] g) fun z h =>
 o.lload 0 2 true (.box k) fun A =>
 o.call (C 61 [A] h) fun B i =>
 o.idx 1 b a fun j =>
 o.load 1 false j i fun D =>
 o.call (C 91 [z, d, B, D] i) fun E F =>
 (o.same j g h ((o.same j h i ((f92_j6 o K C e b E a F))))))
 ((f92_j6 o K C e b d a g)))))
def f92_l1 (o : Ops) (K : Nat) (C : CallC) : SV -> SV -> SV -> Heap -> (SV -> SV -> SV -> Heap -> Rs) -> Rs := fun c d a b e =>
 o.len c fun f =>
 o.lss a f fun g =>
 (o.cond g
 (o.idx 1 c a fun h =>
 o.load 1 false h b fun i =>
 o.s_eql i (.slice nilSl) fun j =>
 (o.guard j
 ((f92_j3 o K C e c d a (.bool true) b))
 (o.idx 2 d a fun k =>
 o.load 2 true k b fun l =>
 o.call (C 47 [l] b) fun m n =>
 o.eql m (.int .i64 0) fun p =>
 (f92_j3 o K C e c d a p n))
 (none)))
 (o.rest d fun q =>
 some (q, b)))
def f92 (o : Ops) (K : Nat) (C : CallC) (a b c : SV) (H : Heap) : Rs :=
 (o.loop3 (f92_l1 o K C) K a b c H)
def f93 (o : Ops) (K : Nat) (C : CallC) (c d e : SV) (H : Heap) : Rs :=
 o.bbox c fun f =>
 o.bbox d fun g =>
 o.bbox e fun h =>
 o.lload 0 2 true (.box f) fun i =>
 o.lload 0 2 true (.box g) fun j =>
 o.lload 0 2 true (.box h) fun k =>
 o.call (C 48 [j, k] H) fun a l =>
 o.ext 0 a fun m =>
 o.ext 1 a fun n =>
 o.call (C 88 [m, n] l) fun p q =>
 o.call (C 49 [i, p] q) fun b r =>
 o.ext 0 b fun s =>
 o.ext 1 b fun t =>
 o.call (C 88 [s, t] r) fun u v =>
 o.bstore 0 2 (.box [.bool false, .slice nilSl]) u fun w =>
 o.resc 2 true (.box w) fun x =>
 some (x, v)
end Go.Sh.Of
