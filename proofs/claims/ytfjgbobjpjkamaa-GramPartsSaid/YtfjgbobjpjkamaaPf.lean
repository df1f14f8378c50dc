/- Plain forms, printed by a program. -/
import Derived.Test.YtfjgbobjpjkamaaSh26
set_option linter.unusedVariables false
set_option maxRecDepth 100000
namespace Go.Sh.Of
open Go
def f3_j17 (o : Ops) (K : Nat) (C : CallC) (b : SV -> SV -> SV -> SV -> SV -> SV -> SV -> SV -> SV -> SV -> SV -> SV -> SV -> SV -> Heap -> Rs) (c d e f g h i j k l m n p q r s : SV) (a : Heap) : Rs :=
 (o.cond s
 (some ((.bool false), a))
 (o.lload 0 3 true k fun t =>
 o.bstore 0 3 j t fun u =>
 o.add r (.int .i64 1) fun v =>
 b c d e f g h i (.box u) l m n p q v a))
def f3_l15 (o : Ops) (K : Nat) (C : CallC) (B : SV -> SV -> SV -> SV -> SV -> SV -> SV -> SV -> SV -> SV -> Heap -> Rs) : SV -> SV -> SV -> SV -> SV -> SV -> SV -> SV -> SV -> SV -> SV -> SV -> SV -> SV -> Heap -> (SV -> SV -> SV -> SV -> SV -> SV -> SV -> SV -> SV -> SV -> SV -> SV -> SV -> SV -> Heap -> Rs) -> Rs := fun e c f j k d g h l m n p q a b r =>
 o.lss a q fun D =>
 (o.cond D
 (o.idx 1 c d fun E =>
 o.load 1 false E b fun F =>
 o.idx 3 F a fun G =>
 o.load 3 true G b fun I =>
 o.idx 3 f a fun J =>
 o.load 3 true J b fun L =>
 o.call (C 12 [I, L] b) fun v s =>
 o.ext 0 v fun M =>
 o.ext 1 v fun N =>
 o.bstore 0 3 (.box [.bool false, .slice nilSl, .slice nilSl]) M fun P =>
 o.lload 0 3 true (.box P) fun Q =>
 o.idx 1 c g fun S =>
 o.load 1 false S s fun T =>
 o.idx 3 T a fun U =>
 o.load 3 true U s fun V =>
 o.call (C 12 [Q, V] s) fun w W =>
 o.ext 0 w fun X =>
 o.ext 1 w fun Y =>
 o.bstore 0 3 (.box [.bool false, .slice nilSl, .slice nilSl]) X fun Z =>
 o.lload 0 3 true h fun aa =>
 o.lload 0 3 true (.box Z) fun ab =>
 o.call (C 13 [aa, ab] W) fun x t =>
 o.ext 0 x fun ac =>
 o.ext 1 x fun ad =>
 o.bstore 0 3 (.box [.bool false, .slice nilSl, .slice nilSl]) ac fun u =>
 o.neq N (.int .i64 0) fun ae =>
 (o.guard ae
 ((f3_j17 o K C r e c f j k d g h (.box u) l m n p q a (.bool true) t))
 (o.neq Y (.int .i64 0) fun af =>
 (o.guard af
 ((f3_j17 o K C r e c f j k d g h (.box u) l m n p q a (.bool true) t))
 (o.neq ad (.int .i64 0) fun ag =>
 (f3_j17 o K C r e c f j k d g h (.box u) l m n p q a ag t))
 (none)))
 (none)))
 (o.lload 0 3 true h fun ah =>
 o.call (C 10 [ah] b) fun ai i =>
 o.idx 1 e d fun y =>
 o.load 1 false y i fun aj =>
 o.idx 1 aj g fun z =>
 o.load 1 false z i fun ak =>
 o.call (C 9 [ak] i) fun al am =>
 o.call (C 8 [al] am) fun an ap =>
 o.call (C 10 [an] ap) fun aq A =>
 o.neq ai aq fun ar =>
 (o.same y b i ((o.same z b i ((o.cond ar
 (some ((.bool false), A))
 (o.add p (.int .i64 1) fun as =>
 B e c f j k d l m n as A))))))))
def f3_j13 (o : Ops) (K : Nat) (C : CallC) (d : SV -> SV -> SV -> SV -> SV -> SV -> SV -> SV -> SV -> SV -> Heap -> Rs) (e f g h i a b j k l m n : SV) (c : Heap) : Rs :=
 (o.cond n
 (some ((.bool false), c))
 (o.build [.bool false, .slice nilSl, .slice nilSl] [] [] fun p =>
 o.bstore 0 3 (.box [.bool false, .slice nilSl, .slice nilSl]) p fun q =>
 o.min [a, b] fun r =>
 o.add r (.int .i64 1) fun s =>
 (o.loop14 (f3_l15 o K C d) K e f g h i a b (.box q) j k l m s (.int .i64 0) c)))
def f3_l11 (o : Ops) (K : Nat) (C : CallC) (m : SV -> SV -> SV -> SV -> SV -> SV -> SV -> Heap -> Rs) : SV -> SV -> SV -> SV -> SV -> SV -> SV -> SV -> SV -> SV -> Heap -> (SV -> SV -> SV -> SV -> SV -> SV -> SV -> SV -> SV -> SV -> Heap -> Rs) -> Rs := fun e c f g h d i j k a b l =>
 o.lss a k fun n =>
 (o.cond n
 (o.gtr a d fun p =>
 (o.guard p
 (o.idx 1 c d fun q =>
 o.load 1 false q b fun r =>
 o.idx 3 r a fun s =>
 o.load 3 true s b fun t =>
 o.call (C 11 [t] b) fun u v =>
 o.neq u (.int .i64 0) fun w =>
 (f3_j13 o K C l e c f g h d a i j k a w v))
 ((f3_j13 o K C l e c f g h d a i j k a (.bool false) b))
 (none)))
 (o.add j (.int .i64 1) fun x =>
 m e c f g h i x b))
def f3_j8 (o : Ops) (K : Nat) (C : CallC) (h : SV -> SV -> SV -> SV -> SV -> SV -> SV -> Heap -> Rs) (i j b c d e k l m : SV) (a : Heap) : Rs :=
 (o.cond m
 (some ((.bool false), a))
 (o.lload 0 3 true d fun n =>
 o.idx 3 b e fun p =>
 o.load 3 true p a fun q =>
 o.call (C 12 [n, q] a) fun f g =>
 o.ext 0 f fun r =>
 o.ext 1 f fun s =>
 o.bstore 0 3 (.box [.bool false, .slice nilSl, .slice nilSl]) r fun t =>
 o.neq s (.int .i64 0) fun u =>
 (o.cond u
 (some ((.bool false), g))
 (o.lload 0 3 true (.box t) fun v =>
 o.bstore 0 3 d v fun w =>
 (o.loop10 (f3_l11 o K C h) K i j b c (.box w) e k l c (.int .i64 0) g)))))
def f3_j26 (o : Ops) (K : Nat) (C : CallC) (a : SV) (b : Heap) : Rs :=
 o.rest a fun c =>
 some (c, b)
def f3_l6 (o : Ops) (K : Nat) (C : CallC) : SV -> SV -> SV -> SV -> SV -> SV -> SV -> Heap -> (SV -> SV -> SV -> SV -> SV -> SV -> SV -> Heap -> Rs) -> Rs := fun d c e f g h a b i =>
 o.lss a h fun p =>
 (o.cond p
 (o.idx 1 c a fun q =>
 o.load 1 false q b fun r =>
 o.len r fun s =>
 o.neq s f fun t =>
 (o.guard t
 ((f3_j8 o K C i d c e f g a h a (.bool true) b))
 (o.idx 1 c a fun u =>
 o.load 1 false u b fun v =>
 o.idx 3 v a fun w =>
 o.load 3 true w b fun x =>
 o.call (C 10 [x] b) fun y j =>
 o.neq y (.str [49]) fun z =>
 (o.guard z
 ((f3_j8 o K C i d c e f g a h a (.bool true) j))
 (o.idx 3 e a fun A =>
 o.load 3 true A j fun B =>
 o.call (C 11 [B] j) fun D E =>
 o.leq D (.int .i64 0) fun F =>
 (f3_j8 o K C i d c e f g a h a F E))
 (none)))
 (none)))
 (o.call (C 14 [d] b) fun k l =>
 o.ext 0 k fun G =>
 o.ext 1 k fun I =>
 o.bstore 0 1 (.box [.slice nilSl]) G fun m =>
 o.eql I (.int .i64 0) fun J =>
 (o.guard J
 (o.lload 0 3 true g fun L =>
 o.call (C 10 [L] l) fun M N =>
 o.lload 0 1 true (.box m) fun P =>
 o.call (C 15 [P] N) fun Q n =>
 o.eql M Q fun S =>
 (o.guard S
 (o.lload 0 1 true (.box m) fun T =>
 o.call (C 16 [T] n) fun U V =>
 o.gtr U (.int .i64 0) fun W =>
 (f3_j26 o K C W V))
 ((f3_j26 o K C (.bool false) n))
 (none)))
 ((f3_j26 o K C (.bool false) l))
 (none))))
def f3_j4 (o : Ops) (K : Nat) (C : CallC) (c d e a f : SV) (b : Heap) : Rs :=
 (o.cond f
 (some ((.bool false), b))
 (o.call (C 9 [(.int .i64 1)] b) fun g h =>
 o.call (C 8 [g] h) fun i j =>
 o.bstore 0 3 (.box [.bool false, .slice nilSl, .slice nilSl]) i fun k =>
 (o.loop7 (f3_l6 o K C) K c d e a (.box k) a (.int .i64 0) j)))
def f3_j1 (o : Ops) (K : Nat) (C : CallC) (a i : SV) (g : Heap) : Rs :=
 (o.cond i
 (o.call (C 4 [] g) fun j k =>
 o.rest j fun l =>
 some (l, k))
 (o.call (C 6 [a] g) fun c d =>
 o.ext 0 c fun e =>
 o.ext 1 c fun f =>
 o.ext 2 c fun h =>
 o.neq h (.int .i64 0) fun m =>
 (o.cond m
 (o.call (C 7 [a] d) fun n p =>
 o.eql h n fun q =>
 o.rest q fun r =>
 some (r, p))
 (o.len a fun b =>
 o.len e fun s =>
 o.neq s b fun t =>
 (o.guard t
 ((f3_j4 o K C a e f b (.bool true) d))
 (o.len f fun u =>
 o.neq u b fun v =>
 (f3_j4 o K C a e f b v d))
 (none))))))
def f3 (o : Ops) (K : Nat) (C : CallC) (a : SV) (H : Heap) : Rs :=
 o.call (C 4 [] H) fun c b =>
 o.u_not c fun d =>
 (o.guard d
 ((f3_j1 o K C a (.bool true) b))
 (o.hbuild 1 [.slice nilSl] [(0, 1)] [a] b fun e f =>
 o.call (C 5 [e] f) fun g h =>
 (f3_j1 o K C a g h))
 (none))
def f4_j1 (o : Ops) (K : Nat) (C : CallC) (a : SV) (b : Heap) : Rs :=
 o.rest a fun c =>
 some (c, b)
def f4 (o : Ops) (K : Nat) (C : CallC) (H : Heap) : Rs :=
 o.hbuild 1 [.int .i64 0, .int .i64 0] [(0, 1), (1, 1)] [(.int .i64 2), (.int .i64 1)] H fun j k =>
 o.hbuild 1 [.int .i64 0, .int .i64 0] [(0, 1), (1, 1)] [(.int .i64 1), (.int .i64 2)] k fun l m =>
 o.hbuild 1 [.slice nilSl, .slice nilSl] [(0, 1), (1, 1)] [j, l] m fun d n =>
 o.call (C 14 [d] n) fun e p =>
 o.ext 0 e fun q =>
 o.ext 1 e fun r =>
 o.bstore 0 1 (.box [.slice nilSl]) q fun s =>
 o.hbuild 1 [.int .i64 0, .int .i64 0] [(0, 1), (1, 1)] [(.int .i64 1), (.int .i64 (-1))] p fun t u =>
 o.call (C 17 [d, t] u) fun f v =>
 o.ext 0 f fun w =>
 o.ext 1 f fun x =>
 o.hbuild 1 [.int .i64 0, .int .i64 0] [(0, 1), (1, 1)] [(.int .i64 1), (.int .i64 1)] v fun y z =>
 o.hbuild 1 [.int .i64 0, .int .i64 0] [(0, 1), (1, 1)] [(.int .i64 0), (.int .i64 1)] z fun A B =>
 o.hbuild 1 [.slice nilSl, .slice nilSl] [(0, 1), (1, 1)] [y, A] B fun D E =>
 o.call (C 18 [D] E) fun g F =>
 o.ext 0 g fun G =>
 o.ext 1 g fun aG =>
 o.bstore 0 1 (.box [.slice nilSl]) G fun I =>
 o.lload 0 1 true (.box I) fun J =>
 o.call (C 19 [d, J] F) fun h b =>
 o.ext 0 h fun c =>
 o.ext 1 h fun L =>
 o.eql r (.int .i64 0) fun M =>
 (o.guard M
 (o.eql x (.int .i64 0) fun N =>
 (o.guard N
 (o.eql L (.int .i64 0) fun P =>
 (o.guard P
 (o.lload 0 1 true (.box s) fun Q =>
 o.call (C 15 [Q] b) fun S a =>
 o.eql S (.str [51]) fun T =>
 (o.guard T
 (o.eql w (.int .i64 2) fun U =>
 (o.guard U
 (o.len c fun V =>
 o.eql V (.int .i64 2) fun W =>
 (o.guard W
 (o.idx 1 c (.int .i64 0) fun X =>
 o.load 1 false X a fun Y =>
 o.idx 1 Y (.int .i64 0) fun Z =>
 o.load 1 false Z a fun aa =>
 o.eql aa (.int .i64 6) fun ab =>
 (o.guard ab
 (o.idx 1 c (.int .i64 0) fun ac =>
 o.load 1 false ac a fun ad =>
 o.idx 1 ad (.int .i64 1) fun ae =>
 o.load 1 false ae a fun af =>
 o.eql af (.int .i64 3) fun ag =>
 (o.guard ag
 (o.idx 1 c (.int .i64 1) fun ah =>
 o.load 1 false ah a fun ai =>
 o.idx 1 ai (.int .i64 1) fun aj =>
 o.load 1 false aj a fun ak =>
 o.eql ak (.int .i64 2) fun al =>
 (o.guard al
 (o.hbuild 1 [.int .i64 0, .int .i64 0] [(0, 1), (1, 1)] [(.int .i64 1), (.int .i64 2)] a fun am an =>
 o.hbuild 1 [.int .i64 0, .int .i64 0] [(0, 1), (1, 1)] [(.int .i64 2), (.int .i64 1)] an fun ap aq =>
 o.hbuild 1 [.slice nilSl, .slice nilSl] [(0, 1), (1, 1)] [am, ap] aq fun ar as =>
 o.call (C 7 [ar] as) fun au i =>
 o.eql au (.int .i64 6) fun av =>
 (o.guard av
 (o.hbuild 1 [.int .i64 0, .int .i64 0] [(0, 1), (1, 1)] [(.int .i64 1), (.int .i64 0)] i fun aw ax =>
 o.hbuild 1 [.int .i64 0, .int .i64 0] [(0, 1), (1, 1)] [(.int .i64 1), (.int .i64 1)] ax fun ay az =>
 o.hbuild 1 [.slice nilSl, .slice nilSl] [(0, 1), (1, 1)] [aw, ay] az fun aA aB =>
 o.call (C 7 [aA] aB) fun aD aE =>
 o.eql aD (.int .i64 6) fun aF =>
 (f4_j1 o K C aF aE))
 ((f4_j1 o K C (.bool false) i))
 (none)))
 ((f4_j1 o K C (.bool false) a))
 (none)))
 ((f4_j1 o K C (.bool false) a))
 (none)))
 ((f4_j1 o K C (.bool false) a))
 (none)))
 ((f4_j1 o K C (.bool false) a))
 (none)))
 ((f4_j1 o K C (.bool false) a))
 (none)))
 ((f4_j1 o K C (.bool false) a))
 (none)))
 ((f4_j1 o K C (.bool false) b))
 (none)))
 ((f4_j1 o K C (.bool false) b))
 (none)))
 ((f4_j1 o K C (.bool false) b))
 (none))
def f5_l4 (o : Ops) (K : Nat) (C : CallC) (h : SV -> SV -> SV -> Heap -> Rs) : SV -> SV -> SV -> SV -> SV -> SV -> Heap -> (SV -> SV -> SV -> SV -> SV -> SV -> Heap -> Rs) -> Rs := fun b d e f g c a i =>
 o.lss c g fun j =>
 (o.cond j
 (o.idx 1 b d fun k =>
 o.load 1 false k a fun l =>
 o.idx 1 l c fun m =>
 o.load 1 false m a fun n =>
 o.len n fun p =>
 o.gtr p (.int .i64 100) fun q =>
 (o.cond q
 (some ((.bool true), a))
 (o.add c (.int .i64 1) fun r =>
 i b d e f g r a)))
 (o.add f (.int .i64 1) fun s =>
 h b e s a))
def f5_l1 (o : Ops) (K : Nat) (C : CallC) : SV -> SV -> SV -> Heap -> (SV -> SV -> SV -> Heap -> Rs) -> Rs := fun c d a b e =>
 o.lss a d fun f =>
 (o.cond f
 (o.idx 1 c a fun g =>
 o.load 1 false g b fun h =>
 o.len h fun i =>
 o.gtr i (.int .i64 100) fun j =>
 (o.cond j
 (some ((.bool true), b))
 (o.idx 1 c a fun k =>
 o.load 1 false k b fun l =>
 o.len l fun m =>
 (o.loop6 (f5_l4 o K C e) K c a d a m (.int .i64 0) b))))
 (some ((.bool false), b)))
def f5 (o : Ops) (K : Nat) (C : CallC) (a : SV) (H : Heap) : Rs :=
 o.len a fun b =>
 (o.loop3 (f5_l1 o K C) K a b (.int .i64 0) H)
def f6_j10 (o : Ops) (K : Nat) (C : CallC) (a : SV -> SV -> SV -> SV -> SV -> SV -> SV -> SV -> Heap -> Rs) (b c d e f g h i : SV) (j : Heap) : Rs :=
 o.add i (.int .i64 1) fun k =>
 a b c d e f g h k j
def f6_l6 (o : Ops) (K : Nat) (C : CallC) (n : SV -> SV -> SV -> SV -> SV -> SV -> SV -> SV -> Heap -> Rs) : SV -> SV -> SV -> SV -> SV -> SV -> SV -> SV -> SV -> SV -> SV -> SV -> Heap -> (SV -> SV -> SV -> SV -> SV -> SV -> SV -> SV -> SV -> SV -> SV -> SV -> Heap -> Rs) -> Rs := fun h c d b e g i j k l p f a x =>
 o.lss f p fun y =>
 (o.cond y
 (o.idx 1 c b fun z =>
 o.load 1 false z a fun A =>
 o.idx 3 A f fun B =>
 o.load 3 true B a fun D =>
 o.idx 3 d f fun E =>
 o.load 3 true E a fun F =>
 o.call (C 12 [D, F] a) fun q m =>
 o.ext 0 q fun G =>
 o.ext 1 q fun ak =>
 o.bstore 0 3 (.box [.bool false, .slice nilSl, .slice nilSl]) G fun r =>
 o.lload 0 3 true (.box r) fun I =>
 o.idx 1 c e fun J =>
 o.load 1 false J m fun L =>
 o.idx 3 L f fun M =>
 o.load 3 true M m fun N =>
 o.call (C 12 [I, N] m) fun s P =>
 o.ext 0 s fun Q =>
 o.ext 1 s fun al =>
 o.bstore 0 3 (.box r) Q fun S =>
 o.lload 0 3 true g fun T =>
 o.lload 0 3 true (.box S) fun U =>
 o.call (C 22 [T, U] P) fun t V =>
 o.ext 0 t fun W =>
 o.ext 1 t fun am =>
 o.bstore 0 3 g W fun X =>
 o.add f (.int .i64 1) fun Y =>
 x h c d b e (.box X) i j k l p Y V)
 (o.eql b e fun Z =>
 (o.cond Z
 (o.lload 0 3 true g fun aa =>
 o.idx 3 d b fun ab =>
 o.store 3 ab aa a fun ac =>
 (f6_j10 o K C n h c d b i j k l ac))
 (o.idx 1 c b fun u =>
 o.load 1 false u a fun ad =>
 o.lload 0 3 true g fun ae =>
 o.idx 3 d e fun af =>
 o.load 3 true af a fun ag =>
 o.call (C 23 [ae, ag] a) fun v w =>
 o.ext 0 v fun ah =>
 o.ext 1 v fun an =>
 o.idx 3 ad e fun ai =>
 o.store 3 ai ah w fun aj =>
 (o.same u a w ((f6_j10 o K C n h c d b i j k l aj)))))))
def f6_l4 (o : Ops) (K : Nat) (C : CallC) (j : SV -> SV -> SV -> SV -> SV -> Heap -> Rs) : SV -> SV -> SV -> SV -> SV -> SV -> SV -> SV -> Heap -> (SV -> SV -> SV -> SV -> SV -> SV -> SV -> SV -> Heap -> Rs) -> Rs := fun c d e f g h i a b k =>
 o.lss a i fun l =>
 (o.cond l
 (o.idx 1 c f fun m =>
 o.load 1 false m b fun n =>
 o.idx 1 n a fun p =>
 o.load 1 false p b fun q =>
 o.call (C 9 [q] b) fun r s =>
 o.call (C 8 [r] s) fun t u =>
 o.bstore 0 3 (.box [.bool false, .slice nilSl, .slice nilSl]) t fun v =>
 (o.loop12 (f6_l6 o K C k) K c d e f a (.box v) g h i a a (.int .i64 0) u))
 (o.add h (.int .i64 1) fun w =>
 j c d e g w b))
def f6_l2 (o : Ops) (K : Nat) (C : CallC) : SV -> SV -> SV -> SV -> SV -> Heap -> (SV -> SV -> SV -> SV -> SV -> Heap -> Rs) -> Rs := fun f b c d a e g =>
 o.lss a d fun h =>
 (o.cond h
 (o.add a (.int .i64 1) fun i =>
 (o.loop8 (f6_l4 o K C g) K f b c a d a i (.int .i64 0) e))
 (o.rest b fun j =>
 o.rest c fun k =>
 some (.tuple [j, k, (.int .i64 0)], e)))
def f6 (o : Ops) (K : Nat) (C : CallC) (b : SV) (H : Heap) : Rs :=
 o.call (C 7 [b] H) fun c d =>
 o.neq c (.int .i64 0) fun f =>
 (o.cond f
 (o.rest c fun g =>
 some (.tuple [(.slice nilSl), (.slice nilSl), g], d))
 (o.len b fun a =>
 o.call (C 9 [(.int .i64 1)] d) fun h i =>
 o.call (C 8 [h] i) fun j k =>
 o.alloc [.bool false, .slice nilSl, .slice nilSl] k fun e l =>
 o.store 3 e j l fun m =>
 o.mkfn 21 0 [e] fun n =>
 o.call (C 20 [a, n] m) fun p q =>
 o.make 3 56 [.bool false, .slice nilSl, .slice nilSl] a a q fun r s =>
 (o.loop5 (f6_l2 o K C) K b p r a (.int .i64 0) s)))
def f7_j9 (o : Ops) (K : Nat) (C : CallC) (b : SV) (a : Heap) : Rs :=
 (o.cond b
 (some ((.int .i64 6), a))
 (some ((.int .i64 0), a)))
def f7_l3 (o : Ops) (K : Nat) (C : CallC) : SV -> SV -> SV -> SV -> Heap -> (SV -> SV -> SV -> SV -> Heap -> Rs) -> Rs := fun a f g c b h =>
 o.lss c g fun i =>
 (o.cond i
 (o.load 1 false a b fun j =>
 o.idx 1 j c fun k =>
 o.load 1 false k b fun l =>
 o.len l fun m =>
 o.neq m f fun n =>
 (o.cond n
 (some ((.int .i64 5), b))
 (o.add c (.int .i64 1) fun p =>
 h a f g p b)))
 (o.load 1 false a b fun q =>
 o.call (C 24 [q, (.fn 25 [] [])] b) fun r d =>
 o.u_not r fun s =>
 (o.cond s
 (some ((.int .i64 3), d))
 (o.load 1 false a d fun t =>
 o.mkfn 27 0 [a] fun u =>
 o.call (C 24 [t, u] d) fun v e =>
 o.u_not v fun w =>
 (o.guard w
 ((f7_j9 o K C (.bool true) e))
 (o.load 1 false a e fun x =>
 o.call (C 28 [x] e) fun y z =>
 o.u_not y fun A =>
 (f7_j9 o K C A z))
 (none))))))
def f7_j1 (o : Ops) (K : Nat) (C : CallC) (b c d : SV) (a : Heap) : Rs :=
 (o.cond d
 (some ((.int .i64 5), a))
 (o.load 1 false b a fun e =>
 o.len e fun f =>
 (o.loop4 (f7_l3 o K C) K b c f (.int .i64 0) a)))
def f7 (o : Ops) (K : Nat) (C : CallC) (d : SV) (H : Heap) : Rs :=
 o.box d H fun b c =>
 o.load 1 false b c fun e =>
 o.len e fun a =>
 o.lss a (.int .i64 1) fun f =>
 (o.guard f
 ((f7_j1 o K C b a (.bool true) c))
 (o.gtr a (.int .i64 8) fun g =>
 (f7_j1 o K C b a g c))
 (none))
def f8 (o : Ops) (K : Nat) (C : CallC) (a : SV) (H : Heap) : Rs :=
 o.bbox a fun b =>
 o.lload 0 2 true (.box b) fun c =>
 o.build [.bool false, .slice nilSl, .slice nilSl] [(0, 2)] [c] fun d =>
 o.bstore 0 3 (.box [.bool false, .slice nilSl, .slice nilSl]) d fun e =>
 o.resc 3 true (.box e) fun f =>
 some (f, H)
def f9 (o : Ops) (K : Nat) (C : CallC) (a : SV) (H : Heap) : Rs :=
 o.lss a (.int .i64 0) fun b =>
 (o.cond b
 (o.conv .u64 a fun c =>
 o.u_neg c fun d =>
 o.call (C 29 [d] H) fun e f =>
 o.build [.bool false, .slice nilSl] [(0, 1), (1, 1)] [(.bool true), e] fun g =>
 o.bstore 0 2 (.box [.bool false, .slice nilSl]) g fun h =>
 o.resc 2 true (.box h) fun i =>
 some (i, f))
 (o.conv .u64 a fun j =>
 o.call (C 29 [j] H) fun k l =>
 o.build [.bool false, .slice nilSl] [(1, 1)] [k] fun m =>
 o.bstore 0 2 (.box [.bool false, .slice nilSl]) m fun n =>
 o.resc 2 true (.box n) fun p =>
 some (p, l)))
def f10 (o : Ops) (K : Nat) (C : CallC) (c : SV) (H : Heap) : Rs :=
 o.bbox c fun a =>
 o.lfld 2 (.box a) fun d =>
 o.lloadp 1 true (.box a) d fun e =>
 o.call (C 16 [e] H) fun f b =>
 o.eql f (.int .i64 0) fun g =>
 (o.cond g
 (o.lfld 0 (.box a) fun h =>
 o.lloadp 2 true (.box a) h fun i =>
 o.call (C 30 [i] b) fun j k =>
 o.rest j fun l =>
 some (l, k))
 (o.lfld 0 (.box a) fun m =>
 o.lloadp 2 true (.box a) m fun n =>
 o.call (C 30 [n] b) fun p q =>
 o.add p (.str [47]) fun r =>
 o.lload 0 3 true (.box a) fun s =>
 o.call (C 31 [s] q) fun t u =>
 o.call (C 15 [t] u) fun v w =>
 o.add r v fun x =>
 o.rest x fun y =>
 some (y, w)))
def f11 (o : Ops) (K : Nat) (C : CallC) (b : SV) (H : Heap) : Rs :=
 o.bbox b fun a =>
 o.lfld 0 (.box a) fun c =>
 o.lloadp 2 true (.box a) c fun d =>
 o.call (C 32 [d] H) fun e f =>
 o.rest e fun g =>
 some (g, f)
def f12 (o : Ops) (K : Nat) (C : CallC) (c d : SV) (H : Heap) : Rs :=
 o.bbox c fun e =>
 o.bbox d fun a =>
 o.lload 0 3 true (.box e) fun f =>
 o.lfld 0 (.box a) fun g =>
 o.lloadp 2 true (.box a) g fun h =>
 o.lload 0 3 true (.box a) fun i =>
 o.call (C 31 [i] H) fun j k =>
 o.call (C 33 [f, h, j] k) fun b l =>
 o.ext 0 b fun m =>
 o.ext 1 b fun n =>
 o.bstore 0 3 (.box [.bool false, .slice nilSl, .slice nilSl]) m fun p =>
 o.resc 3 true (.box p) fun q =>
 o.rest n fun r =>
 some (.tuple [q, r], l)
def f13 (o : Ops) (K : Nat) (C : CallC) (b c : SV) (H : Heap) : Rs :=
 o.bbox b fun d =>
 o.bbox c fun e =>
 o.lload 0 3 true (.box d) fun f =>
 o.lload 0 3 true (.box e) fun g =>
 o.call (C 34 [f, g, (.fn 35 [] [])] H) fun a h =>
 o.ext 0 a fun i =>
 o.ext 1 a fun j =>
 o.bstore 0 3 (.box [.bool false, .slice nilSl, .slice nilSl]) i fun k =>
 o.resc 3 true (.box k) fun l =>
 o.rest j fun m =>
 some (.tuple [l, m], h)
def f14 (o : Ops) (K : Nat) (C : CallC) (a : SV) (H : Heap) : Rs :=
 o.call (C 7 [a] H) fun b c =>
 o.neq b (.int .i64 0) fun f =>
 (o.cond f
 (o.build [.slice nilSl] [] [] fun g =>
 o.bstore 0 1 (.box [.slice nilSl]) g fun h =>
 o.resc 1 true (.box h) fun i =>
 o.rest b fun j =>
 some (.tuple [i, j], c))
 (o.call (C 18 [a] c) fun d k =>
 o.ext 0 d fun l =>
 o.ext 1 d fun x =>
 o.bstore 0 1 (.box [.slice nilSl]) l fun m =>
 o.lload 0 1 true (.box m) fun n =>
 o.call (C 36 [n] k) fun e p =>
 o.ext 0 e fun q =>
 o.ext 1 e fun y =>
 o.bstore 0 2 (.box [.bool false, .slice nilSl]) q fun r =>
 o.lload 0 2 true (.box r) fun s =>
 o.call (C 37 [s] p) fun t u =>
 o.bstore 0 1 (.box [.slice nilSl]) t fun v =>
 o.resc 1 true (.box v) fun w =>
 some (.tuple [w, (.int .i64 0)], u)))
def f15_j5 (o : Ops) (K : Nat) (C : CallC) (e : SV -> SV -> Heap -> Rs) (f : SV -> SV -> SV -> SV -> Heap -> Rs) (a b c g h : SV) (d : Heap) : Rs :=
 (o.cond h
 (o.rem c (.int .u32 10) fun i =>
 o.add (.int .u32 48) i fun j =>
 o.conv .u8 j fun k =>
 o.hbuild 1 [.int .u8 0] [(0, 1)] [k] d fun l m =>
 o.append 1 1 b l m fun n p =>
 o.quo c (.int .u32 10) fun q =>
 o.add g (.int .i64 1) fun r =>
 f a n q r p)
 (e a b d))
def f15_l4 (o : Ops) (K : Nat) (C : CallC) (d : SV -> SV -> Heap -> Rs) : SV -> SV -> SV -> SV -> Heap -> (SV -> SV -> SV -> SV -> Heap -> Rs) -> Rs := fun a e b c f g =>
 o.lss c (.int .i64 9) fun h =>
 (o.guard h
 (o.len a fun i =>
 o.gtr i (.int .i64 0) fun j =>
 (o.guard j
 ((f15_j5 o K C d g a e b c (.bool true) f))
 (o.gtr b (.int .u32 0) fun k =>
 (f15_j5 o K C d g a e b c k f))
 (none)))
 ((f15_j5 o K C d g a e b c (.bool false) f))
 (none))
def f15_l11 (o : Ops) (K : Nat) (C : CallC) : SV -> SV -> SV -> Heap -> (SV -> SV -> SV -> Heap -> Rs) -> Rs := fun a c d b e =>
 o.lss c d fun f =>
 (o.cond f
 (o.idx 1 a d fun g =>
 o.load 1 false g b fun h =>
 o.idx 1 a c fun i =>
 o.load 1 false i b fun j =>
 o.idx 1 a c fun k =>
 o.store 1 k h b fun l =>
 o.idx 1 a d fun m =>
 o.store 1 m j l fun n =>
 o.add c (.int .i64 1) fun p =>
 o.sub d (.int .i64 1) fun q =>
 e a p q n)
 (o.str a b fun r =>
 o.rest r fun s =>
 some (s, b)))
def f15_l2 (o : Ops) (K : Nat) (C : CallC) : SV -> SV -> Heap -> (SV -> SV -> Heap -> Rs) -> Rs := fun a b c d =>
 o.len a fun e =>
 o.gtr e (.int .i64 0) fun f =>
 (o.cond f
 (o.call (C 38 [a, (.int .u32 1000000000)] c) fun g h =>
 o.call (C 39 [a] h) fun i j =>
 o.fieldv 0 1 false i fun k =>
 (o.loop4 (f15_l4 o K C d) K k b g (.int .i64 0) j))
 (o.len b fun l =>
 o.sub l (.int .i64 1) fun m =>
 (o.loop3 (f15_l11 o K C) K b (.int .i64 0) m c)))
def f15 (o : Ops) (K : Nat) (C : CallC) (b : SV) (H : Heap) : Rs :=
 o.bbox b fun a =>
 o.lfld 0 (.box a) fun c =>
 o.lloadp 1 false (.box a) c fun d =>
 o.len d fun e =>
 o.eql e (.int .i64 0) fun f =>
 (o.cond f
 (some ((.str [48]), H))
 (o.lfld 0 (.box a) fun g =>
 o.lloadp 1 false (.box a) g fun h =>
 o.append 1 4 (.slice nilSl) h H fun i j =>
 (o.loop2 (f15_l2 o K C) K i (.slice nilSl) j)))
def f16 (o : Ops) (K : Nat) (C : CallC) (b : SV) (H : Heap) : Rs :=
 o.bbox b fun a =>
 o.lfld 0 (.box a) fun c =>
 o.lloadp 1 false (.box a) c fun d =>
 o.len d fun e =>
 o.eql e (.int .i64 0) fun f =>
 (o.cond f
 (some ((.int .i64 0), H))
 (o.lfld 0 (.box a) fun g =>
 o.lloadp 1 false (.box a) g fun h =>
 o.len h fun i =>
 o.sub i (.int .i64 1) fun j =>
 o.mul (.int .i64 32) j fun k =>
 o.lfld 0 (.box a) fun l =>
 o.lloadp 1 false (.box a) l fun m =>
 o.lfld 0 (.box a) fun n =>
 o.lloadp 1 false (.box a) n fun p =>
 o.len p fun q =>
 o.sub q (.int .i64 1) fun r =>
 o.idx 1 m r fun s =>
 o.load 1 false s H fun t =>
 o.call (C 40 [t] H) fun u v =>
 o.add k u fun w =>
 o.rest w fun x =>
 some (x, v)))
def f17 (o : Ops) (K : Nat) (C : CallC) (c a : SV) (H : Heap) : Rs :=
 o.call (C 41 [c, a, a] H) fun b d =>
 o.ext 0 b fun e =>
 o.ext 1 b fun f =>
 o.rest e fun g =>
 o.rest f fun h =>
 some (.tuple [g, h], d)
def f18 (o : Ops) (K : Nat) (C : CallC) (d : SV) (H : Heap) : Rs :=
 o.box d H fun b c =>
 o.load 1 false b c fun e =>
 o.call (C 43 [e] c) fun f g =>
 o.call (C 42 [f] g) fun h a =>
 o.u_not h fun i =>
 (o.cond i
 (o.build [.slice nilSl] [] [] fun j =>
 o.bstore 0 1 (.box [.slice nilSl]) j fun k =>
 o.resc 1 true (.box k) fun l =>
 some (.tuple [l, (.int .i64 5)], a))
 (o.load 1 false b a fun m =>
 o.len m fun n =>
 o.eql n (.int .i64 0) fun p =>
 (o.cond p
 (o.build [.slice nilSl] [] [] fun q =>
 o.bstore 0 1 (.box [.slice nilSl]) q fun r =>
 o.resc 1 true (.box r) fun s =>
 some (.tuple [s, (.int .i64 0)], a))
 (o.load 1 false b a fun t =>
 o.len t fun u =>
 o.load 1 false b a fun v =>
 o.idx 1 v (.int .i64 0) fun w =>
 o.load 1 false w a fun x =>
 o.len x fun y =>
 o.mkfn 45 0 [b] fun z =>
 o.call (C 44 [u, y, z] a) fun A B =>
 o.bstore 0 1 (.box [.slice nilSl]) A fun D =>
 o.resc 1 true (.box D) fun E =>
 some (.tuple [E, (.int .i64 0)], B)))))
def f19_j7 (o : Ops) (K : Nat) (C : CallC) (b c : SV) (a : Heap) : Rs :=
 (o.cond c
 (some (.tuple [(.slice nilSl), (.int .i64 3)], a))
 (o.rest b fun d =>
 some (.tuple [d, (.int .i64 0)], a)))
def f19_j2 (o : Ops) (K : Nat) (C : CallC) (p b q : SV) (d : Heap) : Rs :=
 (o.cond q
 (some (.tuple [(.slice nilSl), (.int .i64 5)], d))
 (o.lload 0 1 true b fun r =>
 o.call (C 36 [r] d) fun e f =>
 o.ext 0 e fun s =>
 o.ext 1 e fun g =>
 o.bstore 0 2 (.box [.bool false, .slice nilSl]) s fun t =>
 o.neq g (.int .i64 0) fun u =>
 (o.cond u
 (o.rest g fun v =>
 some (.tuple [(.slice nilSl), v], f))
 (o.lload 0 2 true (.box t) fun w =>
 o.call (C 32 [w] f) fun x h =>
 o.eql x (.int .i64 0) fun y =>
 (o.cond y
 (some (.tuple [(.slice nilSl), (.int .i64 50)], h))
 (o.call (C 18 [p] h) fun i z =>
 o.ext 0 i fun A =>
 o.ext 1 i fun ab =>
 o.bstore 0 1 (.box [.slice nilSl]) A fun B =>
 o.lload 0 1 true b fun D =>
 o.lload 0 1 true (.box B) fun E =>
 o.call (C 47 [D, E] z) fun j k =>
 o.ext 0 j fun F =>
 o.ext 1 j fun G =>
 o.bstore 0 1 (.box [.slice nilSl]) F fun l =>
 o.neq G (.int .i64 0) fun I =>
 (o.cond I
 (some (.tuple [(.slice nilSl), (.int .i64 3)], k))
 (o.lload 0 1 true (.box l) fun J =>
 o.lload 0 1 true b fun L =>
 o.call (C 48 [L] k) fun M N =>
 o.call (C 47 [J, M] N) fun m P =>
 o.ext 0 m fun Q =>
 o.ext 1 m fun S =>
 o.bstore 0 1 (.box l) Q fun T =>
 o.lload 0 1 true (.box T) fun U =>
 o.call (C 49 [U] P) fun n c =>
 o.ext 0 n fun a =>
 o.ext 1 n fun V =>
 o.neq S (.int .i64 0) fun W =>
 (o.guard W
 ((f19_j7 o K C a (.bool true) c))
 (o.u_not V fun X =>
 (o.guard X
 ((f19_j7 o K C a (.bool true) c))
 (o.call (C 24 [a, (.fn 50 [] [])] c) fun Y Z =>
 o.u_not Y fun aa =>
 (f19_j7 o K C a aa Z))
 (none)))
 (none))))))))))
def f19 (o : Ops) (K : Nat) (C : CallC) (a h : SV) (H : Heap) : Rs :=
 o.bbox h fun b =>
 o.call (C 7 [a] H) fun c d =>
 o.neq c (.int .i64 0) fun i =>
 (o.cond i
 (o.rest c fun j =>
 some (.tuple [(.slice nilSl), j], d))
 (o.len a fun e =>
 o.lload 0 1 true (.box b) fun k =>
 o.call (C 46 [k] d) fun f g =>
 o.ext 0 f fun l =>
 o.ext 1 f fun m =>
 o.neq l e fun n =>
 (o.guard n
 ((f19_j2 o K C a (.box b) (.bool true) g))
 (o.neq m e fun p =>
 (f19_j2 o K C a (.box b) p g))
 (none))))
def f20_l3 (o : Ops) (K : Nat) (C : CallC) (k : SV -> SV -> SV -> SV -> SV -> Heap -> Rs) : SV -> SV -> SV -> SV -> SV -> SV -> SV -> SV -> SV -> Heap -> (SV -> SV -> SV -> SV -> SV -> SV -> SV -> SV -> SV -> Heap -> Rs) -> Rs := fun d b e f c g h i a j l =>
 o.lss a i fun m =>
 (o.cond m
 (o.callv C [b, f, a] j fun n p =>
 o.idx 3 c a fun q =>
 o.store 3 q n p fun r =>
 o.add a (.int .i64 1) fun s =>
 l d b e f c g h i s r)
 (o.hbuild 1 [.slice nilSl] [(0, 1)] [c] j fun t u =>
 o.append 1 24 e t u fun v w =>
 o.add h (.int .i64 1) fun x =>
 k d b v g x w))
def f20_l1 (o : Ops) (K : Nat) (C : CallC) : SV -> SV -> SV -> SV -> SV -> Heap -> (SV -> SV -> SV -> SV -> SV -> Heap -> Rs) -> Rs := fun a g c d b e h =>
 o.lss b d fun i =>
 (o.cond i
 (o.make 3 56 [.bool false, .slice nilSl, .slice nilSl] a a e fun f j =>
 o.len f fun k =>
 (o.loop9 (f20_l3 o K C h) K a g c b f d b k (.int .i64 0) j))
 (o.rest c fun l =>
 some (l, e)))
def f20 (o : Ops) (K : Nat) (C : CallC) (a b : SV) (H : Heap) : Rs :=
 (o.loop5 (f20_l1 o K C) K a b (.slice nilSl) a (.int .i64 0) H)
def f21 (o : Ops) (K : Nat) (C : CallC) (a b c : SV) (H : Heap) : Rs :=
 o.eql a b fun d =>
 (o.cond d
 (o.load 3 true c H fun e =>
 o.bstore 0 3 (.box [.bool false, .slice nilSl, .slice nilSl]) e fun f =>
 o.resc 3 true (.box f) fun g =>
 some (g, H))
 (o.build [.bool false, .slice nilSl, .slice nilSl] [] [] fun h =>
 o.bstore 0 3 (.box [.bool false, .slice nilSl, .slice nilSl]) h fun i =>
 o.resc 3 true (.box i) fun j =>
 some (j, H)))
def f22 (o : Ops) (K : Nat) (C : CallC) (b c : SV) (H : Heap) : Rs :=
 o.bbox b fun d =>
 o.bbox c fun e =>
 o.lload 0 3 true (.box d) fun f =>
 o.lload 0 3 true (.box e) fun g =>
 o.call (C 34 [f, g, (.fn 51 [] [])] H) fun a h =>
 o.ext 0 a fun i =>
 o.ext 1 a fun j =>
 o.bstore 0 3 (.box [.bool false, .slice nilSl, .slice nilSl]) i fun k =>
 o.resc 3 true (.box k) fun l =>
 o.rest j fun m =>
 some (.tuple [l, m], h)
def f23 (o : Ops) (K : Nat) (C : CallC) (d e : SV) (H : Heap) : Rs :=
 o.bbox d fun f =>
 o.bbox e fun a =>
 o.lload 0 3 true (.box a) fun g =>
 o.call (C 11 [g] H) fun h b =>
 o.eql h (.int .i64 0) fun i =>
 (o.cond i
 (o.build [.bool false, .slice nilSl, .slice nilSl] [] [] fun j =>
 o.bstore 0 3 (.box [.bool false, .slice nilSl, .slice nilSl]) j fun k =>
 o.resc 3 true (.box k) fun l =>
 some (.tuple [l, (.int .i64 11)], b))
 (o.lload 0 3 true (.box f) fun m =>
 o.lload 0 3 true (.box a) fun n =>
 o.call (C 11 [n] b) fun p q =>
 o.lss p (.int .i64 0) fun r =>
 o.lload 0 3 true (.box a) fun s =>
 o.call (C 31 [s] q) fun t u =>
 o.call (C 52 [r, t] u) fun v w =>
 o.lfld 0 (.box a) fun x =>
 o.lloadp 2 true (.box a) x fun y =>
 o.call (C 37 [y] w) fun z A =>
 o.call (C 33 [m, v, z] A) fun c B =>
 o.ext 0 c fun D =>
 o.ext 1 c fun E =>
 o.bstore 0 3 (.box [.bool false, .slice nilSl, .slice nilSl]) D fun F =>
 o.resc 3 true (.box F) fun G =>
 o.rest E fun I =>
 some (.tuple [G, I], B)))
def f24_l3 (o : Ops) (K : Nat) (C : CallC) (k : SV -> SV -> SV -> SV -> Heap -> Rs) : SV -> SV -> SV -> SV -> SV -> SV -> SV -> SV -> Heap -> (SV -> SV -> SV -> SV -> SV -> SV -> SV -> SV -> Heap -> Rs) -> Rs := fun d b e f g h i a c l =>
 o.lss a i fun m =>
 (o.cond m
 (o.idx 1 h a fun n =>
 o.load 1 false n c fun p =>
 o.callv C [b, e, a, p] c fun q j =>
 o.u_not q fun r =>
 (o.cond r
 (some ((.bool false), j))
 (o.add a (.int .i64 1) fun s =>
 l d b e f g h i s j)))
 (o.add g (.int .i64 1) fun t =>
 k d b f t c))
def f24_l1 (o : Ops) (K : Nat) (C : CallC) : SV -> SV -> SV -> SV -> Heap -> (SV -> SV -> SV -> SV -> Heap -> Rs) -> Rs := fun c f d a b g =>
 o.lss a d fun h =>
 (o.cond h
 (o.idx 1 c a fun i =>
 o.load 1 false i b fun e =>
 o.len e fun j =>
 (o.loop8 (f24_l3 o K C g) K c f a d a e j (.int .i64 0) b))
 (some ((.bool true), b)))
def f24 (o : Ops) (K : Nat) (C : CallC) (a b : SV) (H : Heap) : Rs :=
 o.len a fun c =>
 (o.loop4 (f24_l1 o K C) K a b c (.int .i64 0) H)
def f25 (o : Ops) (K : Nat) (C : CallC) (e f a : SV) (H : Heap) : Rs :=
 o.call (C 26 [a] H) fun b c =>
 o.rest b fun d =>
 some (d, c)
def f26_j1 (o : Ops) (K : Nat) (C : CallC) (a : SV) (b : Heap) : Rs :=
 o.rest a fun c =>
 some (c, b)
def f26 (o : Ops) (K : Nat) (C : CallC) (a : SV) (H : Heap) : Rs :=
 o.geq a (.int .i64 (-16384)) fun b =>
 (o.guard b
 (o.leq a (.int .i64 16384) fun c =>
 (f26_j1 o K C c H))
 ((f26_j1 o K C (.bool false) H))
 (none))
def f27 (o : Ops) (K : Nat) (C : CallC) (a b c d : SV) (H : Heap) : Rs :=
 o.load 1 false d H fun e =>
 o.idx 1 e b fun f =>
 o.load 1 false f H fun g =>
 o.idx 1 g a fun h =>
 o.load 1 false h H fun i =>
 o.eql c i fun j =>
 o.rest j fun k =>
 some (k, H)
def f28_l6 (o : Ops) (K : Nat) (C : CallC) (s : SV -> SV -> SV -> SV -> SV -> SV -> SV -> Heap -> Rs) : SV -> SV -> SV -> SV -> SV -> SV -> SV -> SV -> Heap -> (SV -> SV -> SV -> SV -> SV -> SV -> SV -> SV -> Heap -> Rs) -> Rs := fun g a h b d e j k c t =>
 o.lss e g fun u =>
 (o.cond u
 (o.idx 1 a b fun v =>
 o.load 1 false v c fun w =>
 o.idx 2 w b fun x =>
 o.load 2 true x c fun y =>
 o.idx 1 a d fun z =>
 o.load 1 false z c fun A =>
 o.idx 2 A e fun B =>
 o.load 2 true B c fun D =>
 o.call (C 55 [y, D] c) fun l f =>
 o.ext 0 l fun E =>
 o.ext 1 l fun ah =>
 o.bstore 0 2 (.box [.bool false, .slice nilSl]) E fun F =>
 o.idx 1 a d fun G =>
 o.load 1 false G f fun I =>
 o.idx 2 I b fun J =>
 o.load 2 true J f fun L =>
 o.idx 1 a b fun M =>
 o.load 1 false M f fun N =>
 o.idx 2 N e fun P =>
 o.load 2 true P f fun Q =>
 o.call (C 55 [L, Q] f) fun m S =>
 o.ext 0 m fun T =>
 o.ext 1 m fun ai =>
 o.bstore 0 2 (.box [.bool false, .slice nilSl]) T fun U =>
 o.lload 0 2 true (.box F) fun V =>
 o.lload 0 2 true (.box U) fun W =>
 o.call (C 51 [V, W] S) fun n i =>
 o.ext 0 n fun X =>
 o.ext 1 n fun aj =>
 o.bstore 0 2 (.box [.bool false, .slice nilSl]) X fun Y =>
 o.idx 1 a d fun p =>
 o.load 1 false p i fun Z =>
 o.lload 0 2 true (.box Y) fun aa =>
 o.lload 0 2 true h fun ab =>
 o.call (C 56 [aa, ab] i) fun q r =>
 o.ext 0 q fun ac =>
 o.ext 1 q fun ak =>
 o.idx 2 Z e fun ad =>
 o.store 2 ad ac r fun ae =>
 (o.same p i r (o.add e (.int .i64 1) fun af =>
 t g a h b d af j k ae)))
 (o.add d (.int .i64 1) fun ag =>
 s g a h b ag j k c))
def f28_l4 (o : Ops) (K : Nat) (C : CallC) (i : SV -> SV -> SV -> SV -> SV -> Heap -> Rs) : SV -> SV -> SV -> SV -> SV -> SV -> SV -> Heap -> (SV -> SV -> SV -> SV -> SV -> SV -> SV -> Heap -> Rs) -> Rs := fun c d e a f g h b j =>
 o.lss f c fun k =>
 (o.cond k
 (o.add a (.int .i64 1) fun l =>
 (o.loop8 (f28_l6 o K C j) K c d e a f l g h b))
 (o.idx 1 d a fun m =>
 o.load 1 false m b fun n =>
 o.idx 2 n a fun p =>
 o.load 2 true p b fun q =>
 o.bstore 0 2 e q fun r =>
 o.add h (.int .i64 1) fun s =>
 i c d (.box r) g s b))
def f28_l1 (o : Ops) (K : Nat) (C : CallC) : SV -> SV -> SV -> SV -> SV -> Heap -> (SV -> SV -> SV -> SV -> SV -> Heap -> Rs) -> Rs := fun f c g d a b h =>
 o.lss a d fun i =>
 (o.cond i
 (o.idx 1 c a fun j =>
 o.load 1 false j b fun k =>
 o.idx 2 k a fun l =>
 o.load 2 true l b fun m =>
 o.call (C 32 [m] b) fun n e =>
 o.leq n (.int .i64 0) fun p =>
 (o.cond p
 (some ((.bool false), e))
 (o.add a (.int .i64 1) fun q =>
 (o.loop7 (f28_l4 o K C h) K f c g a q d a e))))
 (some ((.bool true), b)))
def f28 (o : Ops) (K : Nat) (C : CallC) (d : SV) (H : Heap) : Rs :=
 o.box d H fun b c =>
 o.load 1 false b c fun e =>
 o.len e fun a =>
 o.mkfn 54 0 [b] fun f =>
 o.call (C 53 [a, f] c) fun g h =>
 o.call (C 9 [(.int .i64 1)] h) fun i j =>
 o.bstore 0 2 (.box [.bool false, .slice nilSl]) i fun k =>
 (o.loop5 (f28_l1 o K C) K a g (.box k) a (.int .i64 0) j)
def f29 (o : Ops) (K : Nat) (C : CallC) (a : SV) (H : Heap) : Rs :=
 o.conv .u32 a fun b =>
 o.shr a (.int .u64 32) fun c =>
 o.conv .u32 c fun d =>
 o.hbuild 1 [.int .u32 0, .int .u32 0] [(0, 1), (1, 1)] [b, d] H fun e f =>
 o.call (C 39 [e] f) fun g h =>
 o.bstore 0 1 (.box [.slice nilSl]) g fun i =>
 o.resc 1 true (.box i) fun j =>
 some (j, h)
def f30 (o : Ops) (K : Nat) (C : CallC) (b : SV) (H : Heap) : Rs :=
 o.bbox b fun a =>
 o.lfld 0 (.box a) fun c =>
 o.lloadp 1 false (.box a) c fun d =>
 (o.cond d
 (o.lfld 1 (.box a) fun e =>
 o.lloadp 1 true (.box a) e fun f =>
 o.call (C 15 [f] H) fun g h =>
 o.add (.str [45]) g fun i =>
 o.rest i fun j =>
 some (j, h))
 (o.lfld 1 (.box a) fun k =>
 o.lloadp 1 true (.box a) k fun l =>
 o.call (C 15 [l] H) fun m n =>
 o.rest m fun p =>
 some (p, n)))
def f31 (o : Ops) (K : Nat) (C : CallC) (d : SV) (H : Heap) : Rs :=
 o.bbox d fun a =>
 o.lfld 2 (.box a) fun e =>
 o.lloadp 1 true (.box a) e fun f =>
 o.call (C 58 [] H) fun g h =>
 o.call (C 57 [f, g] h) fun b c =>
 o.ext 0 b fun i =>
 o.ext 1 b fun j =>
 o.bstore 0 1 (.box [.slice nilSl]) i fun k =>
 o.neq j (.int .i64 0) fun l =>
 (o.cond l
 (o.lfld 2 (.box a) fun m =>
 o.lloadp 1 true (.box a) m fun n =>
 o.bstore 0 1 (.box [.slice nilSl]) n fun p =>
 o.resc 1 true (.box p) fun q =>
 some (q, c))
 (o.lload 0 1 true (.box k) fun r =>
 o.bstore 0 1 (.box [.slice nilSl]) r fun s =>
 o.resc 1 true (.box s) fun t =>
 some (t, c)))
def f32 (o : Ops) (K : Nat) (C : CallC) (c : SV) (H : Heap) : Rs :=
 o.bbox c fun a =>
 o.lfld 1 (.box a) fun d =>
 o.lloadp 1 true (.box a) d fun e =>
 o.call (C 16 [e] H) fun f b =>
 o.eql f (.int .i64 0) fun g =>
 (o.cond g
 (some ((.int .i64 0), b))
 (o.lfld 0 (.box a) fun h =>
 o.lloadp 1 false (.box a) h fun i =>
 (o.cond i
 (some ((.int .i64 (-1)), b))
 (some ((.int .i64 1), b)))))
def f33_j1 (o : Ops) (K : Nat) (C : CallC) (a c d e : SV) (b : Heap) : Rs :=
 (o.cond e
 (o.build [.bool false, .slice nilSl, .slice nilSl] [] [] fun f =>
 o.bstore 0 3 a f fun g =>
 o.resc 3 true (.box g) fun h =>
 some (.tuple [h, (.int .i64 3)], b))
 (o.lload 0 2 true c fun i =>
 o.lload 0 1 true d fun j =>
 o.call (C 60 [i, j] b) fun k l =>
 o.bstore 0 3 a k fun m =>
 o.resc 3 true (.box m) fun n =>
 some (.tuple [n, (.int .i64 0)], l)))
def f33 (o : Ops) (K : Nat) (C : CallC) (g h i : SV) (H : Heap) : Rs :=
 o.bbox g fun a =>
 o.bbox h fun j =>
 o.bbox i fun k =>
 o.lfld 0 (.box a) fun l =>
 o.lloadp 2 true (.box a) l fun m =>
 o.lload 0 2 true (.box j) fun n =>
 o.call (C 55 [m, n] H) fun b p =>
 o.ext 0 b fun q =>
 o.ext 1 b fun r =>
 o.bstore 0 2 (.box [.bool false, .slice nilSl]) q fun c =>
 o.lload 0 3 true (.box a) fun s =>
 o.call (C 31 [s] p) fun t u =>
 o.lload 0 1 true (.box k) fun v =>
 o.call (C 59 [t, v] u) fun d e =>
 o.ext 0 d fun w =>
 o.ext 1 d fun x =>
 o.bstore 0 1 (.box [.slice nilSl]) w fun f =>
 o.neq r (.int .i64 0) fun y =>
 (o.guard y
 ((f33_j1 o K C (.box [.bool false, .slice nilSl, .slice nilSl]) (.box c) (.box f) (.bool true) e))
 (o.neq x (.int .i64 0) fun z =>
 (f33_j1 o K C (.box [.bool false, .slice nilSl, .slice nilSl]) (.box c) (.box f) z e))
 (none))
def f34_j1 (o : Ops) (K : Nat) (C : CallC) (e a f g h i : SV) (b : Heap) : Rs :=
 (o.cond i
 (o.build [.bool false, .slice nilSl, .slice nilSl] [] [] fun j =>
 o.bstore 0 3 a j fun k =>
 o.resc 3 true (.box k) fun l =>
 some (.tuple [l, (.int .i64 3)], b))
 (o.lload 0 2 true f fun m =>
 o.lload 0 2 true g fun n =>
 o.callv C [e, m, n] b fun c d =>
 o.ext 0 c fun p =>
 o.ext 1 c fun q =>
 o.bstore 0 2 (.box [.bool false, .slice nilSl]) p fun r =>
 o.neq q (.int .i64 0) fun s =>
 (o.cond s
 (o.build [.bool false, .slice nilSl, .slice nilSl] [] [] fun t =>
 o.bstore 0 3 a t fun u =>
 o.resc 3 true (.box u) fun v =>
 some (.tuple [v, (.int .i64 3)], d))
 (o.lload 0 2 true (.box r) fun w =>
 o.lload 0 1 true h fun x =>
 o.call (C 60 [w, x] d) fun y z =>
 o.bstore 0 3 a y fun A =>
 o.resc 3 true (.box A) fun B =>
 some (.tuple [B, (.int .i64 0)], z)))))
def f34 (o : Ops) (K : Nat) (C : CallC) (k l c : SV) (H : Heap) : Rs :=
 o.bbox k fun a =>
 o.bbox l fun b =>
 o.lfld 0 (.box a) fun m =>
 o.lloadp 2 true (.box a) m fun n =>
 o.lload 0 3 true (.box b) fun p =>
 o.call (C 31 [p] H) fun q r =>
 o.callv C [(.fn 61 [] []), n, q] r fun h s =>
 o.ext 0 h fun t =>
 o.ext 1 h fun u =>
 o.bstore 0 2 (.box [.bool false, .slice nilSl]) t fun d =>
 o.lfld 0 (.box b) fun v =>
 o.lloadp 2 true (.box b) v fun w =>
 o.lload 0 3 true (.box a) fun x =>
 o.call (C 31 [x] s) fun y z =>
 o.callv C [(.fn 61 [] []), w, y] z fun i A =>
 o.ext 0 i fun B =>
 o.ext 1 i fun D =>
 o.bstore 0 2 (.box [.bool false, .slice nilSl]) B fun e =>
 o.lload 0 3 true (.box a) fun E =>
 o.call (C 31 [E] A) fun F G =>
 o.lload 0 3 true (.box b) fun I =>
 o.call (C 31 [I] G) fun J L =>
 o.call (C 59 [F, J] L) fun j f =>
 o.ext 0 j fun M =>
 o.ext 1 j fun N =>
 o.bstore 0 1 (.box [.slice nilSl]) M fun g =>
 o.neq u (.int .i64 0) fun P =>
 (o.guard P
 ((f34_j1 o K C c (.box [.bool false, .slice nilSl, .slice nilSl]) (.box d) (.box e) (.box g) (.bool true) f))
 (o.neq D (.int .i64 0) fun Q =>
 (o.guard Q
 ((f34_j1 o K C c (.box [.bool false, .slice nilSl, .slice nilSl]) (.box d) (.box e) (.box g) (.bool true) f))
 (o.neq N (.int .i64 0) fun S =>
 (f34_j1 o K C c (.box [.bool false, .slice nilSl, .slice nilSl]) (.box d) (.box e) (.box g) S f))
 (none)))
 (none))
def f35_j2 (o : Ops) (K : Nat) (C : CallC) (a b d : SV) (e : Heap) : Rs :=
 o.lfld 1 a fun f =>
 o.lloadp 1 true a f fun g =>
 o.lfld 1 b fun h =>
 o.lloadp 1 true b h fun i =>
 o.call (C 63 [g, i] e) fun c j =>
 o.ext 0 c fun k =>
 o.ext 1 c fun l =>
 o.bstore 0 1 (.box [.slice nilSl]) k fun m =>
 o.lfld 0 a fun n =>
 o.lloadp 1 false a n fun p =>
 o.lload 0 1 true (.box m) fun q =>
 o.call (C 52 [p, q] j) fun r s =>
 o.bstore 0 2 d r fun t =>
 o.resc 2 true (.box t) fun u =>
 o.rest l fun v =>
 some (.tuple [u, v], s)
def f35 (o : Ops) (K : Nat) (C : CallC) (e f : SV) (H : Heap) : Rs :=
 o.bbox e fun a =>
 o.bbox f fun b =>
 o.lfld 0 (.box a) fun g =>
 o.lloadp 1 false (.box a) g fun h =>
 o.lfld 0 (.box b) fun i =>
 o.lloadp 1 false (.box b) i fun j =>
 o.b_eql h j fun k =>
 (o.cond k
 (o.lfld 1 (.box a) fun l =>
 o.lloadp 1 true (.box a) l fun m =>
 o.lfld 1 (.box b) fun n =>
 o.lloadp 1 true (.box b) n fun p =>
 o.call (C 57 [m, p] H) fun c q =>
 o.ext 0 c fun r =>
 o.ext 1 c fun s =>
 o.bstore 0 1 (.box [.slice nilSl]) r fun t =>
 o.lfld 0 (.box a) fun u =>
 o.lloadp 1 false (.box a) u fun v =>
 o.lload 0 1 true (.box t) fun w =>
 o.call (C 52 [v, w] q) fun x y =>
 o.bstore 0 2 (.box [.bool false, .slice nilSl]) x fun z =>
 o.resc 2 true (.box z) fun A =>
 o.rest s fun B =>
 some (.tuple [A, B], y))
 (o.lfld 1 (.box a) fun D =>
 o.lloadp 1 true (.box a) D fun E =>
 o.lfld 1 (.box b) fun F =>
 o.lloadp 1 true (.box b) F fun G =>
 o.call (C 62 [E, G] H) fun I d =>
 o.lss I (.int .i64 0) fun J =>
 (o.cond J
 (o.lload 0 2 true (.box b) fun L =>
 o.lload 0 2 true (.box a) fun M =>
 o.bstore 0 2 (.box a) L fun N =>
 o.bstore 0 2 (.box b) M fun P =>
 (f35_j2 o K C (.box N) (.box P) (.box [.bool false, .slice nilSl]) d))
 ((f35_j2 o K C (.box a) (.box b) (.box [.bool false, .slice nilSl]) d)))))
def f36 (o : Ops) (K : Nat) (C : CallC) (e : SV) (H : Heap) : Rs :=
 o.bbox e fun a =>
 o.lload 0 1 true (.box a) fun f =>
 o.call (C 64 [f] H) fun b c =>
 o.neq b (.int .i64 0) fun g =>
 (o.cond g
 (o.build [.bool false, .slice nilSl] [] [] fun h =>
 o.bstore 0 2 (.box [.bool false, .slice nilSl]) h fun i =>
 o.resc 2 true (.box i) fun j =>
 o.rest b fun k =>
 some (.tuple [j, k], c))
 (o.lload 0 1 true (.box a) fun l =>
 o.call (C 65 [l] c) fun d m =>
 o.ext 0 d fun t =>
 o.ext 1 d fun n =>
 o.bstore 0 2 (.box [.bool false, .slice nilSl]) n fun p =>
 o.lload 0 2 true (.box p) fun q =>
 o.bstore 0 2 (.box [.bool false, .slice nilSl]) q fun r =>
 o.resc 2 true (.box r) fun s =>
 some (.tuple [s, (.int .i64 0)], m)))
def f37 (o : Ops) (K : Nat) (C : CallC) (b : SV) (H : Heap) : Rs :=
 o.bbox b fun a =>
 o.lfld 1 (.box a) fun c =>
 o.lloadp 1 true (.box a) c fun d =>
 o.bstore 0 1 (.box [.slice nilSl]) d fun e =>
 o.resc 1 true (.box e) fun f =>
 some (f, H)
def f38_l1 (o : Ops) (K : Nat) (C : CallC) : SV -> SV -> SV -> SV -> Heap -> (SV -> SV -> SV -> SV -> Heap -> Rs) -> Rs := fun b c e a d g =>
 o.geq a (.int .i64 0) fun h =>
 (o.cond h
 (o.shl e (.int .u64 32) fun i =>
 o.idx 1 b a fun j =>
 o.load 1 false j d fun k =>
 o.conv .u64 k fun l =>
 o.or i l fun f =>
 o.conv .u64 c fun m =>
 o.quo f m fun n =>
 o.conv .u32 n fun p =>
 o.conv .u64 c fun q =>
 o.rem f q fun r =>
 o.idx 1 b a fun s =>
 o.store 1 s p d fun t =>
 o.sub a (.int .i64 1) fun u =>
 g b c r u t)
 (o.conv .u32 e fun v =>
 o.rest v fun w =>
 some (w, d)))
def f38 (o : Ops) (K : Nat) (C : CallC) (a b : SV) (H : Heap) : Rs :=
 o.len a fun c =>
 o.sub c (.int .i64 1) fun d =>
 (o.loop4 (f38_l1 o K C) K a b (.int .u64 0) d H)
def f39_j2 (o : Ops) (K : Nat) (C : CallC) (e : SV -> SV -> SV -> Heap -> Rs) (c d a f : SV) (b : Heap) : Rs :=
 (o.cond f
 (o.sub a (.int .i64 1) fun g =>
 e c d g b)
 (o.slice011 1 c a a b fun h =>
 o.build [.slice nilSl] [(0, 1)] [h] fun i =>
 o.bstore 0 1 d i fun j =>
 o.resc 1 true (.box j) fun k =>
 some (k, b)))
def f39_l1 (o : Ops) (K : Nat) (C : CallC) : SV -> SV -> SV -> Heap -> (SV -> SV -> SV -> Heap -> Rs) -> Rs := fun b d a c e =>
 o.gtr a (.int .i64 0) fun f =>
 (o.guard f
 (o.sub a (.int .i64 1) fun g =>
 o.idx 1 b g fun h =>
 o.load 1 false h c fun i =>
 o.eql i (.int .u32 0) fun j =>
 (f39_j2 o K C e b d a j c))
 ((f39_j2 o K C e b d a (.bool false) c))
 (none))
def f39 (o : Ops) (K : Nat) (C : CallC) (a : SV) (H : Heap) : Rs :=
 o.len a fun b =>
 (o.loop3 (f39_l1 o K C) K a (.box [.slice nilSl]) b H)
def f40_j2 (o : Ops) (K : Nat) (C : CallC) (a b : SV) (c : Heap) : Rs :=
 o.conv .u8 a fun d =>
 o.stridx (.str [0, 1, 2, 2, 3, 3, 3, 3, 4, 4, 4, 4, 4, 4, 4, 4, 5, 5, 5, 5, 5, 5, 5, 5, 5, 5, 5, 5, 5, 5, 5, 5, 6, 6, 6, 6, 6, 6, 6, 6, 6, 6, 6, 6, 6, 6, 6, 6, 6, 6, 6, 6, 6, 6, 6, 6, 6, 6, 6, 6, 6, 6, 6, 6, 7, 7, 7, 7, 7, 7, 7, 7, 7, 7, 7, 7, 7, 7, 7, 7, 7, 7, 7, 7, 7, 7, 7, 7, 7, 7, 7, 7, 7, 7, 7, 7, 7, 7, 7, 7, 7, 7, 7, 7, 7, 7, 7, 7, 7, 7, 7, 7, 7, 7, 7, 7, 7, 7, 7, 7, 7, 7, 7, 7, 7, 7, 7, 7, 8, 8, 8, 8, 8, 8, 8, 8, 8, 8, 8, 8, 8, 8, 8, 8, 8, 8, 8, 8, 8, 8, 8, 8, 8, 8, 8, 8, 8, 8, 8, 8, 8, 8, 8, 8, 8, 8, 8, 8, 8, 8, 8, 8, 8, 8, 8, 8, 8, 8, 8, 8, 8, 8, 8, 8, 8, 8, 8, 8, 8, 8, 8, 8, 8, 8, 8, 8, 8, 8, 8, 8, 8, 8, 8, 8, 8, 8, 8, 8, 8, 8, 8, 8, 8, 8, 8, 8, 8, 8, 8, 8, 8, 8, 8, 8, 8, 8, 8, 8, 8, 8, 8, 8, 8, 8, 8, 8, 8, 8, 8, 8, 8, 8, 8, 8, 8, 8, 8, 8, 8, 8, 8, 8, 8, 8, 8, 8]) d fun e =>
 o.conv .i64 e fun f =>
 o.add b f fun g =>
 o.rest g fun h =>
 some (h, c)
def f40_j1 (o : Ops) (K : Nat) (C : CallC) (a b : SV) (c : Heap) : Rs :=
 o.geq a (.int .u32 256) fun d =>
 (o.cond d
 (o.shr a (.int .u64 8) fun e =>
 o.add b (.int .i64 8) fun f =>
 (f40_j2 o K C e f c))
 ((f40_j2 o K C a b c)))
def f40 (o : Ops) (K : Nat) (C : CallC) (a : SV) (H : Heap) : Rs :=
 o.geq a (.int .u32 65536) fun b =>
 (o.cond b
 (o.shr a (.int .u64 16) fun c =>
 (f40_j1 o K C c (.int .i64 16) H))
 ((f40_j1 o K C a (.int .i64 0) H)))
def f41 (o : Ops) (K : Nat) (C : CallC) (a e f : SV) (H : Heap) : Rs :=
 o.call (C 7 [a] H) fun b c =>
 o.neq b (.int .i64 0) fun g =>
 (o.cond g
 (o.rest b fun h =>
 some (.tuple [(.int .i64 0), h], c))
 (o.call (C 66 [a, e, f] c) fun d i =>
 o.ext 0 d fun j =>
 o.ext 1 d fun k =>
 o.rest j fun l =>
 o.rest k fun m =>
 some (.tuple [l, m], i)))
def f42_j3 (o : Ops) (K : Nat) (C : CallC) (b : SV -> SV -> SV -> SV -> Heap -> Rs) (c d e f g : SV) (a : Heap) : Rs :=
 (o.cond g
 (some ((.bool false), a))
 (o.add f (.int .i64 1) fun h =>
 b c d e h a))
def f42_l1 (o : Ops) (K : Nat) (C : CallC) : SV -> SV -> SV -> SV -> Heap -> (SV -> SV -> SV -> SV -> Heap -> Rs) -> Rs := fun b d e c a f =>
 o.lss c e fun h =>
 (o.cond h
 (o.idx 1 d c fun i =>
 o.load 1 false i a fun g =>
 o.len b fun j =>
 o.gtr j (.int .i64 16) fun k =>
 (o.guard k
 ((f42_j3 o K C f b d e c (.bool true) a))
 (o.lss g (.int .i64 1) fun l =>
 (o.guard l
 ((f42_j3 o K C f b d e c (.bool true) a))
 (o.gtr g (.int .i64 16) fun m =>
 (o.guard m
 ((f42_j3 o K C f b d e c (.bool true) a))
 (o.idx 1 b (.int .i64 0) fun n =>
 o.load 1 false n a fun p =>
 o.neq g p fun q =>
 (f42_j3 o K C f b d e c q a))
 (none)))
 (none)))
 (none)))
 (some ((.bool true), a)))
def f42 (o : Ops) (K : Nat) (C : CallC) (a : SV) (H : Heap) : Rs :=
 o.len a fun b =>
 (o.loop4 (f42_l1 o K C) K a a b (.int .i64 0) H)
def f43_l1 (o : Ops) (K : Nat) (C : CallC) : SV -> SV -> SV -> SV -> Heap -> (SV -> SV -> SV -> SV -> Heap -> Rs) -> Rs := fun c d e a b f =>
 o.lss a e fun g =>
 (o.cond g
 (o.idx 1 c a fun h =>
 o.load 1 false h b fun i =>
 o.len i fun j =>
 o.hbuild 1 [.int .i64 0] [(0, 1)] [j] b fun k l =>
 o.append 1 8 d k l fun m n =>
 o.add a (.int .i64 1) fun p =>
 f c m e p n)
 (o.rest d fun q =>
 some (q, b)))
def f43 (o : Ops) (K : Nat) (C : CallC) (a : SV) (H : Heap) : Rs :=
 o.len a fun b =>
 (o.loop4 (f43_l1 o K C) K a (.slice nilSl) b (.int .i64 0) H)
def f44_l3 (o : Ops) (K : Nat) (C : CallC) (l : SV -> SV -> SV -> SV -> SV -> SV -> Heap -> Rs) : SV -> SV -> SV -> SV -> SV -> SV -> SV -> SV -> SV -> SV -> Heap -> (SV -> SV -> SV -> SV -> SV -> SV -> SV -> SV -> SV -> SV -> Heap -> Rs) -> Rs := fun d b e f g c h i j a k m =>
 o.lss a j fun n =>
 (o.cond n
 (o.callv C [b, g, a] k fun p q =>
 o.idx 2 c a fun r =>
 o.store 2 r p q fun s =>
 o.add a (.int .i64 1) fun t =>
 m d b e f g c h i j t s)
 (o.hbuild 1 [.slice nilSl] [(0, 1)] [c] k fun u v =>
 o.append 1 24 f u v fun w x =>
 o.add i (.int .i64 1) fun y =>
 l d b e w h y x))
def f44_l1 (o : Ops) (K : Nat) (C : CallC) : SV -> SV -> SV -> SV -> SV -> SV -> Heap -> (SV -> SV -> SV -> SV -> SV -> SV -> Heap -> Rs) -> Rs := fun a h c d e b f i =>
 o.lss b e fun j =>
 (o.cond j
 (o.make 2 32 [.bool false, .slice nilSl] a a f fun g k =>
 o.len g fun l =>
 (o.loop10 (f44_l3 o K C i) K a h c d b g e b l (.int .i64 0) k))
 (o.build [.slice nilSl] [(0, 1)] [d] fun m =>
 o.bstore 0 1 c m fun n =>
 o.resc 1 true (.box n) fun p =>
 some (p, f)))
def f44 (o : Ops) (K : Nat) (C : CallC) (a b c : SV) (H : Heap) : Rs :=
 (o.loop6 (f44_l1 o K C) K b c (.box [.slice nilSl]) (.slice nilSl) a (.int .i64 0) H)
def f45 (o : Ops) (K : Nat) (C : CallC) (a b c : SV) (H : Heap) : Rs :=
 o.load 1 false c H fun d =>
 o.idx 1 d a fun e =>
 o.load 1 false e H fun f =>
 o.idx 1 f b fun g =>
 o.load 1 false g H fun h =>
 o.call (C 9 [h] H) fun i j =>
 o.bstore 0 2 (.box [.bool false, .slice nilSl]) i fun k =>
 o.resc 2 true (.box k) fun l =>
 some (l, j)
def f46 (o : Ops) (K : Nat) (C : CallC) (b : SV) (H : Heap) : Rs :=
 o.bbox b fun a =>
 o.lfld 0 (.box a) fun c =>
 o.lloadp 1 false (.box a) c fun d =>
 o.len d fun e =>
 o.eql e (.int .i64 0) fun f =>
 (o.cond f
 (some (.tuple [(.int .i64 0), (.int .i64 0)], H))
 (o.lfld 0 (.box a) fun g =>
 o.lloadp 1 false (.box a) g fun h =>
 o.len h fun i =>
 o.lfld 0 (.box a) fun j =>
 o.lloadp 1 false (.box a) j fun k =>
 o.idx 1 k (.int .i64 0) fun l =>
 o.load 1 false l H fun m =>
 o.len m fun n =>
 o.rest i fun p =>
 o.rest n fun q =>
 some (.tuple [p, q], H)))
def f47 (o : Ops) (K : Nat) (C : CallC) (j k : SV) (H : Heap) : Rs :=
 o.box j H fun c l =>
 o.box k l fun d e =>
 o.load 1 true c e fun m =>
 o.call (C 46 [m] e) fun f n =>
 o.ext 0 f fun p =>
 o.ext 1 f fun q =>
 o.alloc [.int .i64 0] n fun a r =>
 o.store 1 a q r fun g =>
 o.load 1 true d g fun s =>
 o.call (C 46 [s] g) fun h b =>
 o.ext 0 h fun t =>
 o.ext 1 h fun u =>
 o.load 1 false a b fun v =>
 o.neq v t fun w =>
 (o.cond w
 (o.build [.slice nilSl] [] [] fun x =>
 o.bstore 0 1 (.box [.slice nilSl]) x fun y =>
 o.resc 1 true (.box y) fun z =>
 some (.tuple [z, (.int .i64 5)], b))
 (o.mkfn 68 0 [a, c, d] fun A =>
 o.call (C 67 [p, u, A] b) fun i B =>
 o.ext 0 i fun D =>
 o.ext 1 i fun E =>
 o.bstore 0 1 (.box [.slice nilSl]) D fun F =>
 o.resc 1 true (.box F) fun G =>
 o.rest E fun I =>
 some (.tuple [G, I], B)))
def f48 (o : Ops) (K : Nat) (C : CallC) (d : SV) (H : Heap) : Rs :=
 o.box d H fun a b =>
 o.load 1 true a b fun e =>
 o.call (C 46 [e] b) fun c f =>
 o.ext 0 c fun g =>
 o.ext 1 c fun h =>
 o.mkfn 69 0 [a] fun i =>
 o.call (C 44 [h, g, i] f) fun j k =>
 o.bstore 0 1 (.box [.slice nilSl]) j fun l =>
 o.resc 1 true (.box l) fun m =>
 some (m, k)
def f49_l3 (o : Ops) (K : Nat) (C : CallC) (l : SV -> SV -> SV -> SV -> Heap -> Rs) : SV -> SV -> SV -> SV -> SV -> SV -> SV -> SV -> Heap -> (SV -> SV -> SV -> SV -> SV -> SV -> SV -> SV -> Heap -> Rs) -> Rs := fun c d e f g h i a b m =>
 o.lss a i fun n =>
 (o.cond n
 (o.idx 2 h a fun p =>
 o.load 2 true p b fun q =>
 o.bstore 0 2 (.box [.bool false, .slice nilSl]) q fun r =>
 o.lload 0 2 true (.box r) fun s =>
 o.call (C 70 [s] b) fun j k =>
 o.ext 0 j fun t =>
 o.ext 1 j fun u =>
 o.u_not u fun v =>
 (o.cond v
 (some (.tuple [(.slice nilSl), (.bool false)], k))
 (o.hbuild 1 [.int .i64 0] [(0, 1)] [t] k fun w x =>
 o.append 1 8 d w x fun y z =>
 o.add a (.int .i64 1) fun A =>
 m c y e f g h i A z)))
 (o.hbuild 1 [.slice nilSl] [(0, 1)] [d] b fun B D =>
 o.append 1 24 c B D fun E F =>
 o.add g (.int .i64 1) fun G =>
 l E e f G F))
def f49_l1 (o : Ops) (K : Nat) (C : CallC) : SV -> SV -> SV -> SV -> Heap -> (SV -> SV -> SV -> SV -> Heap -> Rs) -> Rs := fun c d e a b g =>
 o.lss a e fun h =>
 (o.cond h
 (o.idx 1 d a fun i =>
 o.load 1 false i b fun f =>
 o.len f fun j =>
 (o.loop8 (f49_l3 o K C g) K c (.slice nilSl) d e a f j (.int .i64 0) b))
 (o.rest c fun k =>
 some (.tuple [k, (.bool true)], b)))
def f49 (o : Ops) (K : Nat) (C : CallC) (c : SV) (H : Heap) : Rs :=
 o.bbox c fun a =>
 o.lfld 0 (.box a) fun d =>
 o.lloadp 1 false (.box a) d fun b =>
 o.len b fun e =>
 (o.loop4 (f49_l1 o K C) K (.slice nilSl) b e (.int .i64 0) H)
def f50 (o : Ops) (K : Nat) (C : CallC) (e f a : SV) (H : Heap) : Rs :=
 o.call (C 26 [a] H) fun b c =>
 o.rest b fun d =>
 some (d, c)
def f51 (o : Ops) (K : Nat) (C : CallC) (b c : SV) (H : Heap) : Rs :=
 o.bbox b fun d =>
 o.bbox c fun e =>
 o.lload 0 2 true (.box d) fun f =>
 o.lload 0 2 true (.box e) fun g =>
 o.call (C 71 [g] H) fun h i =>
 o.call (C 35 [f, h] i) fun a j =>
 o.ext 0 a fun k =>
 o.ext 1 a fun l =>
 o.bstore 0 2 (.box [.bool false, .slice nilSl]) k fun m =>
 o.resc 2 true (.box m) fun n =>
 o.rest l fun p =>
 some (.tuple [n, p], j)
def f52_j1 (o : Ops) (K : Nat) (C : CallC) (a : SV) (b : Heap) : Rs :=
 o.resc 2 true a fun c =>
 some (c, b)
def f52 (o : Ops) (K : Nat) (C : CallC) (b c : SV) (H : Heap) : Rs :=
 o.bbox c fun a =>
 (o.guard b
 (o.lload 0 1 true (.box a) fun d =>
 o.call (C 16 [d] H) fun e f =>
 o.gtr e (.int .i64 0) fun g =>
 o.lload 0 1 true (.box a) fun h =>
 o.build [.bool false, .slice nilSl] [(0, 1), (1, 1)] [g, h] fun i =>
 o.bstore 0 2 (.box [.bool false, .slice nilSl]) i fun j =>
 (f52_j1 o K C (.box j) f))
 (o.lload 0 1 true (.box a) fun k =>
 o.build [.bool false, .slice nilSl] [(0, 1), (1, 1)] [(.bool false), k] fun l =>
 o.bstore 0 2 (.box [.bool false, .slice nilSl]) l fun m =>
 (f52_j1 o K C (.box m) H))
 (none))
def f53_l3 (o : Ops) (K : Nat) (C : CallC) (k : SV -> SV -> SV -> SV -> SV -> Heap -> Rs) : SV -> SV -> SV -> SV -> SV -> SV -> SV -> SV -> SV -> Heap -> (SV -> SV -> SV -> SV -> SV -> SV -> SV -> SV -> SV -> Heap -> Rs) -> Rs := fun d b e f c g h i a j l =>
 o.lss a i fun m =>
 (o.cond m
 (o.callv C [b, f, a] j fun n p =>
 o.idx 2 c a fun q =>
 o.store 2 q n p fun r =>
 o.add a (.int .i64 1) fun s =>
 l d b e f c g h i s r)
 (o.hbuild 1 [.slice nilSl] [(0, 1)] [c] j fun t u =>
 o.append 1 24 e t u fun v w =>
 o.add h (.int .i64 1) fun x =>
 k d b v g x w))
def f53_l1 (o : Ops) (K : Nat) (C : CallC) : SV -> SV -> SV -> SV -> SV -> Heap -> (SV -> SV -> SV -> SV -> SV -> Heap -> Rs) -> Rs := fun a g c d b e h =>
 o.lss b d fun i =>
 (o.cond i
 (o.make 2 32 [.bool false, .slice nilSl] a a e fun f j =>
 o.len f fun k =>
 (o.loop9 (f53_l3 o K C h) K a g c b f d b k (.int .i64 0) j))
 (o.rest c fun l =>
 some (l, e)))
def f53 (o : Ops) (K : Nat) (C : CallC) (a b : SV) (H : Heap) : Rs :=
 (o.loop5 (f53_l1 o K C) K a b (.slice nilSl) a (.int .i64 0) H)
def f54 (o : Ops) (K : Nat) (C : CallC) (a b c : SV) (H : Heap) : Rs :=
 o.load 1 false c H fun d =>
 o.idx 1 d a fun e =>
 o.load 1 false e H fun f =>
 o.idx 1 f b fun g =>
 o.load 1 false g H fun h =>
 o.call (C 9 [h] H) fun i j =>
 o.bstore 0 2 (.box [.bool false, .slice nilSl]) i fun k =>
 o.resc 2 true (.box k) fun l =>
 some (l, j)
def f55 (o : Ops) (K : Nat) (C : CallC) (d e : SV) (H : Heap) : Rs :=
 o.bbox d fun a =>
 o.bbox e fun b =>
 o.lfld 1 (.box a) fun f =>
 o.lloadp 1 true (.box a) f fun g =>
 o.lfld 1 (.box b) fun h =>
 o.lloadp 1 true (.box b) h fun i =>
 o.call (C 59 [g, i] H) fun c j =>
 o.ext 0 c fun k =>
 o.ext 1 c fun l =>
 o.bstore 0 1 (.box [.slice nilSl]) k fun m =>
 o.lfld 0 (.box a) fun n =>
 o.lloadp 1 false (.box a) n fun p =>
 o.lfld 0 (.box b) fun q =>
 o.lloadp 1 false (.box b) q fun r =>
 o.b_neq p r fun s =>
 o.lload 0 1 true (.box m) fun t =>
 o.call (C 52 [s, t] j) fun u v =>
 o.bstore 0 2 (.box [.bool false, .slice nilSl]) u fun w =>
 o.resc 2 true (.box w) fun x =>
 o.rest l fun y =>
 some (.tuple [x, y], v)
def f56 (o : Ops) (K : Nat) (C : CallC) (e f : SV) (H : Heap) : Rs :=
 o.bbox e fun g =>
 o.bbox f fun h =>
 o.lload 0 2 true (.box g) fun i =>
 o.lload 0 2 true (.box h) fun j =>
 o.call (C 72 [i, j] H) fun a b =>
 o.ext 0 a fun k =>
 o.ext 1 a fun l =>
 o.ext 2 a fun c =>
 o.bstore 0 2 (.box [.bool false, .slice nilSl]) k fun m =>
 o.bstore 0 2 (.box [.bool false, .slice nilSl]) l fun n =>
 o.neq c (.int .i64 0) fun p =>
 (o.cond p
 (o.build [.bool false, .slice nilSl] [] [] fun q =>
 o.bstore 0 2 (.box [.bool false, .slice nilSl]) q fun r =>
 o.resc 2 true (.box r) fun s =>
 o.rest c fun t =>
 some (.tuple [s, t], b))
 (o.lload 0 2 true (.box n) fun u =>
 o.call (C 32 [u] b) fun v d =>
 o.neq v (.int .i64 0) fun w =>
 (o.cond w
 (o.build [.bool false, .slice nilSl] [] [] fun x =>
 o.bstore 0 2 (.box [.bool false, .slice nilSl]) x fun y =>
 o.resc 2 true (.box y) fun z =>
 some (.tuple [z, (.int .i64 2)], d))
 (o.lload 0 2 true (.box m) fun A =>
 o.bstore 0 2 (.box [.bool false, .slice nilSl]) A fun B =>
 o.resc 2 true (.box B) fun D =>
 some (.tuple [D, (.int .i64 0)], d)))))
def f57_j4 (o : Ops) (K : Nat) (C : CallC) (c : SV -> SV -> SV -> SV -> SV -> SV -> Heap -> Rs) (d e a b f g h : SV) (i : Heap) : Rs :=
 o.conv .u32 b fun j =>
 o.idx 1 a f fun k =>
 o.store 1 k j i fun l =>
 o.shr b (.int .u64 32) fun m =>
 o.add h (.int .i64 1) fun n =>
 c d e a m g n l
def f57_l2 (o : Ops) (K : Nat) (C : CallC) : SV -> SV -> SV -> SV -> SV -> SV -> Heap -> (SV -> SV -> SV -> SV -> SV -> SV -> Heap -> Rs) -> Rs := fun b e d j f a c g =>
 o.lss a f fun k =>
 (o.cond k
 (o.idx 1 d a fun l =>
 o.load 1 false l c fun m =>
 o.conv .u64 m fun n =>
 o.add j n fun h =>
 o.lfld 0 b fun p =>
 o.lloadp 1 false b p fun q =>
 o.len q fun r =>
 o.lss a r fun s =>
 (o.cond s
 (o.lfld 0 b fun t =>
 o.lloadp 1 false b t fun u =>
 o.idx 1 u a fun v =>
 o.load 1 false v c fun w =>
 o.conv .u64 w fun x =>
 o.add h x fun y =>
 (f57_j4 o K C g b e d y a f a c))
 ((f57_j4 o K C g b e d h a f a c))))
 (o.call (C 39 [d] c) fun z A =>
 o.call (C 73 [z] A) fun i B =>
 o.ext 0 i fun D =>
 o.ext 1 i fun E =>
 o.bstore 0 1 e D fun F =>
 o.resc 1 true (.box F) fun G =>
 o.rest E fun I =>
 some (.tuple [G, I], B)))
def f57_j1 (o : Ops) (K : Nat) (C : CallC) (a d e : SV) (f : Heap) : Rs :=
 o.lfld 0 a fun g =>
 o.lloadp 1 false a g fun h =>
 o.len h fun i =>
 o.add i (.int .i64 1) fun c =>
 o.make 1 4 [.int .u32 0] c c f fun b j =>
 o.lfld 0 a fun k =>
 o.lloadp 1 false a k fun l =>
 o.copy 1 b l j fun p m =>
 o.len b fun n =>
 (o.loop6 (f57_l2 o K C) K d e b (.int .u64 0) n (.int .i64 0) m)
def f57 (o : Ops) (K : Nat) (C : CallC) (c d : SV) (H : Heap) : Rs :=
 o.bbox c fun a =>
 o.bbox d fun b =>
 o.lfld 0 (.box a) fun e =>
 o.lloadp 1 false (.box a) e fun f =>
 o.len f fun g =>
 o.lfld 0 (.box b) fun h =>
 o.lloadp 1 false (.box b) h fun i =>
 o.len i fun j =>
 o.lss g j fun k =>
 (o.cond k
 (o.lload 0 1 true (.box b) fun l =>
 o.lload 0 1 true (.box a) fun m =>
 o.bstore 0 1 (.box a) l fun n =>
 o.bstore 0 1 (.box b) m fun p =>
 (f57_j1 o K C (.box n) (.box p) (.box [.slice nilSl]) H))
 ((f57_j1 o K C (.box a) (.box b) (.box [.slice nilSl]) H)))
def f58 (o : Ops) (K : Nat) (C : CallC) (H : Heap) : Rs :=
 o.call (C 29 [(.int .u64 1)] H) fun a b =>
 o.bstore 0 1 (.box [.slice nilSl]) a fun c =>
 o.resc 1 true (.box c) fun d =>
 some (d, b)
def f59 (o : Ops) (K : Nat) (C : CallC) (e f : SV) (H : Heap) : Rs :=
 o.bbox e fun a =>
 o.bbox f fun b =>
 o.lload 0 1 true (.box a) fun g =>
 o.call (C 16 [g] H) fun h i =>
 o.lload 0 1 true (.box b) fun j =>
 o.call (C 16 [j] i) fun k c =>
 o.add h k fun l =>
 o.gtr l (.int .i64 4097) fun m =>
 (o.cond m
 (o.build [.slice nilSl] [] [] fun n =>
 o.bstore 0 1 (.box [.slice nilSl]) n fun p =>
 o.resc 1 true (.box p) fun q =>
 some (.tuple [q, (.int .i64 3)], c))
 (o.lload 0 1 true (.box a) fun r =>
 o.lload 0 1 true (.box b) fun s =>
 o.call (C 74 [r, s] c) fun t u =>
 o.call (C 73 [t] u) fun d v =>
 o.ext 0 d fun w =>
 o.ext 1 d fun x =>
 o.bstore 0 1 (.box [.slice nilSl]) w fun y =>
 o.resc 1 true (.box y) fun z =>
 o.rest x fun A =>
 some (.tuple [z, A], v)))
def f60_j1 (o : Ops) (K : Nat) (C : CallC) (b c d : SV) (e : Heap) : Rs :=
 o.lload 0 1 true c fun f =>
 o.call (C 58 [] e) fun g h =>
 o.call (C 63 [f, g] h) fun a i =>
 o.ext 0 a fun j =>
 o.ext 1 a fun r =>
 o.bstore 0 1 (.box [.slice nilSl]) j fun k =>
 o.lload 0 2 true b fun l =>
 o.lload 0 1 true (.box k) fun m =>
 o.build [.bool false, .slice nilSl, .slice nilSl] [(0, 2), (2, 1)] [l, m] fun n =>
 o.bstore 0 3 d n fun p =>
 o.resc 3 true (.box p) fun q =>
 some (q, i)
def f60 (o : Ops) (K : Nat) (C : CallC) (g h : SV) (H : Heap) : Rs :=
 o.bbox g fun a =>
 o.bbox h fun b =>
 o.lload 0 2 true (.box a) fun i =>
 o.call (C 37 [i] H) fun j k =>
 o.lload 0 1 true (.box b) fun l =>
 o.call (C 75 [j, l] k) fun m n =>
 o.bstore 0 1 (.box [.slice nilSl]) m fun c =>
 o.lload 0 1 true (.box c) fun p =>
 o.call (C 58 [] n) fun q r =>
 o.call (C 62 [p, q] r) fun s f =>
 o.gtr s (.int .i64 0) fun t =>
 (o.cond t
 (o.lload 0 2 true (.box a) fun u =>
 o.call (C 37 [u] f) fun v w =>
 o.lload 0 1 true (.box c) fun x =>
 o.call (C 76 [v, x] w) fun d y =>
 o.ext 0 d fun z =>
 o.ext 1 d fun A =>
 o.ext 2 d fun U =>
 o.bstore 0 1 (.box [.slice nilSl]) z fun B =>
 o.bstore 0 1 (.box [.slice nilSl]) A fun V =>
 o.lload 0 2 true (.box a) fun D =>
 o.call (C 32 [D] y) fun E F =>
 o.lss E (.int .i64 0) fun G =>
 o.lload 0 1 true (.box B) fun I =>
 o.call (C 52 [G, I] F) fun J L =>
 o.bstore 0 2 (.box a) J fun M =>
 o.lload 0 1 true (.box b) fun N =>
 o.lload 0 1 true (.box c) fun P =>
 o.call (C 76 [N, P] L) fun e Q =>
 o.ext 0 e fun S =>
 o.ext 1 e fun W =>
 o.ext 2 e fun X =>
 o.bstore 0 1 (.box b) S fun T =>
 (f60_j1 o K C (.box M) (.box T) (.box [.bool false, .slice nilSl, .slice nilSl]) Q))
 ((f60_j1 o K C (.box a) (.box b) (.box [.bool false, .slice nilSl, .slice nilSl]) f)))
def f61 (o : Ops) (K : Nat) (C : CallC) (b c : SV) (H : Heap) : Rs :=
 o.bbox b fun d =>
 o.bbox c fun e =>
 o.lload 0 2 true (.box d) fun f =>
 o.lload 0 1 true (.box e) fun g =>
 o.call (C 52 [(.bool false), g] H) fun h i =>
 o.call (C 55 [f, h] i) fun a j =>
 o.ext 0 a fun k =>
 o.ext 1 a fun l =>
 o.bstore 0 2 (.box [.bool false, .slice nilSl]) k fun m =>
 o.resc 2 true (.box m) fun n =>
 o.rest l fun p =>
 some (.tuple [n, p], j)
def f62_l3 (o : Ops) (K : Nat) (C : CallC) : SV -> SV -> SV -> Heap -> (SV -> SV -> SV -> Heap -> Rs) -> Rs := fun c d b a e =>
 o.geq b (.int .i64 0) fun f =>
 (o.cond f
 (o.lfld 0 c fun g =>
 o.lloadp 1 false c g fun h =>
 o.idx 1 h b fun i =>
 o.load 1 false i a fun j =>
 o.lfld 0 d fun k =>
 o.lloadp 1 false d k fun l =>
 o.idx 1 l b fun m =>
 o.load 1 false m a fun n =>
 o.lss j n fun p =>
 (o.cond p
 (some ((.int .i64 (-1)), a))
 (o.lfld 0 c fun q =>
 o.lloadp 1 false c q fun r =>
 o.idx 1 r b fun s =>
 o.load 1 false s a fun t =>
 o.lfld 0 d fun u =>
 o.lloadp 1 false d u fun v =>
 o.idx 1 v b fun w =>
 o.load 1 false w a fun x =>
 o.gtr t x fun y =>
 (o.cond y
 (some ((.int .i64 1), a))
 (o.sub b (.int .i64 1) fun z =>
 e c d z a)))))
 (some ((.int .i64 0), a)))
def f62 (o : Ops) (K : Nat) (C : CallC) (c d : SV) (H : Heap) : Rs :=
 o.bbox c fun a =>
 o.bbox d fun b =>
 o.lfld 0 (.box a) fun e =>
 o.lloadp 1 false (.box a) e fun f =>
 o.len f fun g =>
 o.lfld 0 (.box b) fun h =>
 o.lloadp 1 false (.box b) h fun i =>
 o.len i fun j =>
 o.neq g j fun k =>
 (o.cond k
 (o.lfld 0 (.box a) fun l =>
 o.lloadp 1 false (.box a) l fun m =>
 o.len m fun n =>
 o.lfld 0 (.box b) fun p =>
 o.lloadp 1 false (.box b) p fun q =>
 o.len q fun r =>
 o.lss n r fun s =>
 (o.cond s
 (some ((.int .i64 (-1)), H))
 (some ((.int .i64 1), H))))
 (o.lfld 0 (.box a) fun t =>
 o.lloadp 1 false (.box a) t fun u =>
 o.len u fun v =>
 o.sub v (.int .i64 1) fun w =>
 (o.loop3 (f62_l3 o K C) K (.box a) (.box b) w H)))
def f63 (o : Ops) (K : Nat) (C : CallC) (f g : SV) (H : Heap) : Rs :=
 o.bbox f fun a =>
 o.bbox g fun b =>
 o.lload 0 1 true (.box a) fun h =>
 o.lload 0 1 true (.box b) fun i =>
 o.call (C 62 [h, i] H) fun j d =>
 o.lss j (.int .i64 0) fun k =>
 (o.cond k
 (o.build [.slice nilSl] [] [] fun l =>
 o.bstore 0 1 (.box [.slice nilSl]) l fun m =>
 o.resc 1 true (.box m) fun n =>
 some (.tuple [n, (.int .i64 10)], d))
 (o.lfld 0 (.box a) fun p =>
 o.lloadp 1 false (.box a) p fun q =>
 o.len q fun e =>
 o.make 1 4 [.int .u32 0] e e d fun c r =>
 o.lfld 0 (.box a) fun s =>
 o.lloadp 1 false (.box a) s fun t =>
 o.copy 1 c t r fun D u =>
 o.lfld 0 (.box b) fun v =>
 o.lloadp 1 false (.box b) v fun w =>
 o.call (C 77 [c, w] u) fun E x =>
 o.call (C 39 [c] x) fun y z =>
 o.bstore 0 1 (.box [.slice nilSl]) y fun A =>
 o.resc 1 true (.box A) fun B =>
 some (.tuple [B, (.int .i64 0)], z)))
def f64 (o : Ops) (K : Nat) (C : CallC) (e : SV) (H : Heap) : Rs :=
 o.bbox e fun a =>
 o.lload 0 1 true (.box a) fun f =>
 o.call (C 46 [f] H) fun b c =>
 o.ext 0 b fun g =>
 o.ext 1 b fun h =>
 o.neq g h fun i =>
 (o.cond i
 (some ((.int .i64 5), c))
 (o.lload 0 1 true (.box a) fun j =>
 o.call (C 78 [j] c) fun k d =>
 (o.cond k
 (some ((.int .i64 3), d))
 (some ((.int .i64 0), d)))))
def f65_j9 (o : Ops) (K : Nat) (C : CallC) (a : SV -> SV -> SV -> SV -> SV -> SV -> SV -> SV -> Heap -> Rs) (b c d e f g h i : SV) (j : Heap) : Rs :=
 o.add i (.int .i64 1) fun k =>
 a b c d e f g h k j
def f65_l14 (o : Ops) (K : Nat) (C : CallC) (u : SV -> SV -> SV -> SV -> SV -> SV -> SV -> SV -> SV -> Heap -> Rs) : SV -> SV -> SV -> SV -> SV -> SV -> SV -> SV -> SV -> SV -> Heap -> (SV -> SV -> SV -> SV -> SV -> SV -> SV -> SV -> SV -> SV -> Heap -> Rs) -> Rs := fun k l h a i m g d c e b v =>
 o.lss e h fun w =>
 (o.cond w
 (o.idx 1 a g fun x =>
 o.load 1 false x b fun y =>
 o.idx 2 y d fun z =>
 o.load 2 true z b fun A =>
 o.idx 1 a c fun B =>
 o.load 1 false B b fun D =>
 o.idx 2 D e fun E =>
 o.load 2 true E b fun F =>
 o.call (C 55 [A, F] b) fun n f =>
 o.ext 0 n fun G =>
 o.ext 1 n fun ap =>
 o.bstore 0 2 (.box [.bool false, .slice nilSl]) G fun I =>
 o.idx 1 a c fun J =>
 o.load 1 false J f fun L =>
 o.idx 2 L d fun M =>
 o.load 2 true M f fun N =>
 o.idx 1 a g fun P =>
 o.load 1 false P f fun Q =>
 o.idx 2 Q e fun S =>
 o.load 2 true S f fun T =>
 o.call (C 55 [N, T] f) fun p U =>
 o.ext 0 p fun V =>
 o.ext 1 p fun aq =>
 o.bstore 0 2 (.box [.bool false, .slice nilSl]) V fun W =>
 o.lload 0 2 true (.box I) fun X =>
 o.lload 0 2 true (.box W) fun Y =>
 o.call (C 51 [X, Y] U) fun q j =>
 o.ext 0 q fun Z =>
 o.ext 1 q fun ar =>
 o.bstore 0 2 (.box [.bool false, .slice nilSl]) Z fun aa =>
 o.idx 1 a c fun r =>
 o.load 1 false r j fun ab =>
 o.lload 0 2 true (.box aa) fun ac =>
 o.lload 0 2 true i fun ad =>
 o.call (C 56 [ac, ad] j) fun s t =>
 o.ext 0 s fun ae =>
 o.ext 1 s fun as =>
 o.idx 2 ab e fun af =>
 o.store 2 af ae t fun ag =>
 (o.same r j t (o.add e (.int .i64 1) fun ah =>
 v k l h a i m g d c ah ag)))
 (o.idx 1 a c fun ai =>
 o.load 1 false ai b fun aj =>
 o.build [.bool false, .slice nilSl] [] [] fun ak =>
 o.idx 2 aj d fun al =>
 o.store 2 al ak b fun am =>
 o.add c (.int .i64 1) fun an =>
 u k l h a i m g d an am))
def f65_l12 (o : Ops) (K : Nat) (C : CallC) (k : SV -> SV -> SV -> SV -> SV -> SV -> SV -> SV -> Heap -> Rs) : SV -> SV -> SV -> SV -> SV -> SV -> SV -> SV -> SV -> Heap -> (SV -> SV -> SV -> SV -> SV -> SV -> SV -> SV -> SV -> Heap -> Rs) -> Rs := fun f c g d h i e a j b l =>
 o.lss j c fun m =>
 (o.cond m
 (o.add a (.int .i64 1) fun n =>
 (o.loop10 (f65_l14 o K C l) K f c g d h i e a j n b))
 (o.idx 1 d e fun p =>
 o.load 1 false p b fun q =>
 o.idx 2 q a fun r =>
 o.load 2 true r b fun s =>
 o.bstore 0 2 h s fun t =>
 o.add e (.int .i64 1) fun u =>
 (f65_j9 o K C k f c g d (.box t) i u a b)))
def f65_j11 (o : Ops) (K : Nat) (C : CallC) (b : SV -> SV -> SV -> SV -> SV -> SV -> SV -> SV -> Heap -> Rs) (c d e f g h a i : SV) (j : Heap) : Rs :=
 o.add a (.int .i64 1) fun k =>
 (o.loop9 (f65_l12 o K C b) K c d e f g h a i k j)
def f65_j5 (o : Ops) (K : Nat) (C : CallC) (k : SV -> SV -> SV -> SV -> SV -> SV -> SV -> SV -> Heap -> Rs) (l : SV -> SV -> SV -> SV -> SV -> SV -> SV -> SV -> SV -> Heap -> Rs) (f d g a h i b j e m : SV) (c : Heap) : Rs :=
 (o.cond m
 (o.add e (.int .i64 1) fun n =>
 l f d g a h i b j n c)
 (o.eql e d fun p =>
 (o.cond p
 ((f65_j9 o K C k f d g a h i b j c))
 (o.neq e b fun q =>
 (o.cond q
 (o.idx 1 a b fun r =>
 o.load 1 false r c fun s =>
 o.idx 1 a e fun t =>
 o.load 1 false t c fun u =>
 o.idx 1 a e fun v =>
 o.store 1 v s c fun w =>
 o.idx 1 a b fun x =>
 o.store 1 x u w fun y =>
 o.u_neg i fun z =>
 (f65_j11 o K C k f d g a h z b j y))
 ((f65_j11 o K C k f d g a h i b j c)))))))
def f65_l4 (o : Ops) (K : Nat) (C : CallC) (f : SV -> SV -> SV -> SV -> SV -> SV -> SV -> SV -> Heap -> Rs) : SV -> SV -> SV -> SV -> SV -> SV -> SV -> SV -> SV -> Heap -> (SV -> SV -> SV -> SV -> SV -> SV -> SV -> SV -> SV -> Heap -> Rs) -> Rs := fun g c h d i j k e a b l =>
 o.lss a c fun m =>
 (o.guard m
 (o.idx 1 d a fun n =>
 o.load 1 false n b fun p =>
 o.idx 2 p e fun q =>
 o.load 2 true q b fun r =>
 o.call (C 32 [r] b) fun s t =>
 o.eql s (.int .i64 0) fun u =>
 (f65_j5 o K C f l g c h d i j k e a u t))
 ((f65_j5 o K C f l g c h d i j k e a (.bool false) b))
 (none))
def f65_j2 (o : Ops) (K : Nat) (C : CallC) (g : SV -> SV -> SV -> SV -> SV -> SV -> SV -> SV -> Heap -> Rs) (b e h i d f a j k : SV) (c : Heap) : Rs :=
 (o.cond k
 ((o.loop9 (f65_l4 o K C g) K b e h i d f a j a c))
 (o.lss a e fun l =>
 (o.cond l
 (o.build [.bool false, .slice nilSl] [] [] fun m =>
 o.bstore 0 2 b m fun n =>
 o.rest a fun p =>
 o.resc 2 true (.box n) fun q =>
 some (.tuple [p, q], c))
 (o.lss f (.int .i64 0) fun r =>
 (o.cond r
 (o.lload 0 2 true d fun s =>
 o.call (C 71 [s] c) fun t u =>
 o.bstore 0 2 b t fun v =>
 o.rest a fun w =>
 o.resc 2 true (.box v) fun x =>
 some (.tuple [w, x], u))
 (o.lload 0 2 true d fun y =>
 o.bstore 0 2 b y fun z =>
 o.rest a fun A =>
 o.resc 2 true (.box z) fun B =>
 some (.tuple [A, B], c)))))))
def f65_l1 (o : Ops) (K : Nat) (C : CallC) : SV -> SV -> SV -> SV -> SV -> SV -> SV -> SV -> Heap -> (SV -> SV -> SV -> SV -> SV -> SV -> SV -> SV -> Heap -> Rs) -> Rs := fun e a b f g h c d i j =>
 o.lss d b fun k =>
 (o.guard k
 (o.lss c a fun l =>
 (f65_j2 o K C j e a b f g h c d l i))
 ((f65_j2 o K C j e a b f g h c d (.bool false) i))
 (none))
def f65 (o : Ops) (K : Nat) (C : CallC) (e : SV) (H : Heap) : Rs :=
 o.bbox e fun a =>
 o.lload 0 1 true (.box a) fun f =>
 o.call (C 46 [f] H) fun b g =>
 o.ext 0 b fun c =>
 o.ext 1 b fun d =>
 o.lload 0 1 true (.box a) fun h =>
 o.mkfn 79 1 [h] fun i =>
 o.call (C 44 [c, d, i] g) fun j k =>
 o.fieldv 0 1 false j fun l =>
 o.call (C 9 [(.int .i64 1)] k) fun m n =>
 o.bstore 0 2 (.box [.bool false, .slice nilSl]) m fun p =>
 (o.loop8 (f65_l1 o K C) K (.box [.bool false, .slice nilSl]) c d l (.box p) (.int .i64 1) (.int .i64 0) (.int .i64 0) n)
def f66_j1 (o : Ops) (K : Nat) (C : CallC) (f g h i : SV) (b : Heap) : Rs :=
 (o.cond i
 (some (.tuple [(.int .i64 0), (.int .i64 5)], b))
 (o.build [.bool false, .slice nilSl] [] [] fun j =>
 o.alloc [.bool false, .slice nilSl] b fun a k =>
 o.store 2 a j k fun l =>
 o.mkfn 80 0 [g, h, a] fun m =>
 o.call (C 24 [f, m] l) fun t c =>
 o.load 2 true a c fun n =>
 o.call (C 70 [n] c) fun d e =>
 o.ext 0 d fun p =>
 o.ext 1 d fun q =>
 o.u_not q fun r =>
 (o.cond r
 (some (.tuple [(.int .i64 0), (.int .i64 3)], e))
 (o.rest p fun s =>
 some (.tuple [s, (.int .i64 0)], e)))))
def f66 (o : Ops) (K : Nat) (C : CallC) (a e f : SV) (H : Heap) : Rs :=
 o.box e H fun c g =>
 o.box f g fun d b =>
 o.load 1 false c b fun h =>
 o.len h fun i =>
 o.len a fun j =>
 o.neq i j fun k =>
 (o.guard k
 ((f66_j1 o K C a c d (.bool true) b))
 (o.load 1 false d b fun l =>
 o.len l fun m =>
 o.len a fun n =>
 o.neq m n fun p =>
 (f66_j1 o K C a c d p b))
 (none))
def f67 (o : Ops) (K : Nat) (C : CallC) (c d e : SV) (H : Heap) : Rs :=
 o.box e H fun f g =>
 o.alloc [.int .i64 0] g fun a h =>
 o.store 1 a (.int .i64 0) h fun i =>
 o.mkfn 81 0 [a, f] fun j =>
 o.call (C 44 [c, d, j] i) fun k b =>
 o.bstore 0 1 (.box [.slice nilSl]) k fun l =>
 o.load 1 false a b fun m =>
 o.neq m (.int .i64 0) fun n =>
 (o.cond n
 (o.build [.slice nilSl] [] [] fun p =>
 o.load 1 false a b fun q =>
 o.bstore 0 1 (.box [.slice nilSl]) p fun r =>
 o.resc 1 true (.box r) fun s =>
 o.rest q fun t =>
 some (.tuple [s, t], b))
 (o.lload 0 1 true (.box l) fun u =>
 o.bstore 0 1 (.box [.slice nilSl]) u fun v =>
 o.resc 1 true (.box v) fun w =>
 some (.tuple [w, (.int .i64 0)], b)))
def f68_l1 (o : Ops) (K : Nat) (C : CallC) : SV -> SV -> SV -> SV -> SV -> SV -> SV -> SV -> Heap -> (SV -> SV -> SV -> SV -> SV -> SV -> SV -> SV -> Heap -> Rs) -> Rs := fun e f g h b c i d a r =>
 o.lss d i fun s =>
 (o.cond s
 (o.fld 0 g fun t =>
 o.load 1 false t a fun u =>
 o.idx 1 u e fun v =>
 o.load 1 false v a fun w =>
 o.idx 2 w d fun x =>
 o.load 2 true x a fun y =>
 o.fld 0 h fun z =>
 o.load 1 false z a fun A =>
 o.idx 1 A d fun B =>
 o.load 1 false B a fun D =>
 o.idx 2 D f fun E =>
 o.load 2 true E a fun F =>
 o.call (C 55 [y, F] a) fun j k =>
 o.ext 0 j fun G =>
 o.ext 1 j fun l =>
 o.bstore 0 2 (.box [.bool false, .slice nilSl]) G fun I =>
 o.neq l (.int .i64 0) fun J =>
 (o.cond J
 (o.lload 0 2 true c fun L =>
 o.bstore 0 2 b L fun M =>
 o.resc 2 true (.box M) fun N =>
 o.rest l fun P =>
 some (.tuple [N, P], k))
 (o.lload 0 2 true c fun Q =>
 o.lload 0 2 true (.box I) fun S =>
 o.call (C 35 [Q, S] k) fun m n =>
 o.ext 0 m fun T =>
 o.ext 1 m fun p =>
 o.bstore 0 2 c T fun q =>
 o.neq p (.int .i64 0) fun U =>
 (o.cond U
 (o.lload 0 2 true (.box q) fun V =>
 o.bstore 0 2 b V fun W =>
 o.resc 2 true (.box W) fun X =>
 o.rest p fun Y =>
 some (.tuple [X, Y], n))
 (o.add d (.int .i64 1) fun Z =>
 r e f g h b (.box q) i Z n)))))
 (o.lload 0 2 true c fun aa =>
 o.bstore 0 2 b aa fun ab =>
 o.resc 2 true (.box ab) fun ac =>
 some (.tuple [ac, (.int .i64 0)], a)))
def f68 (o : Ops) (K : Nat) (C : CallC) (a b c d e : SV) (H : Heap) : Rs :=
 o.build [.bool false, .slice nilSl] [] [] fun f =>
 o.bstore 0 2 (.box [.bool false, .slice nilSl]) f fun g =>
 o.load 1 false c H fun h =>
 (o.loop8 (f68_l1 o K C) K a b d e (.box [.bool false, .slice nilSl]) (.box g) h (.int .i64 0) H)
def f69 (o : Ops) (K : Nat) (C : CallC) (a b c : SV) (H : Heap) : Rs :=
 o.fld 0 c fun d =>
 o.load 1 false d H fun e =>
 o.idx 1 e b fun f =>
 o.load 1 false f H fun g =>
 o.idx 2 g a fun h =>
 o.load 2 true h H fun i =>
 o.bstore 0 2 (.box [.bool false, .slice nilSl]) i fun j =>
 o.resc 2 true (.box j) fun k =>
 some (k, H)
def f70_j1 (o : Ops) (K : Nat) (C : CallC) (b c d : SV) (a : Heap) : Rs :=
 (o.cond d
 (some (.tuple [(.int .i64 0), (.bool false)], a))
 (o.lfld 0 b fun e =>
 o.lloadp 1 false b e fun f =>
 (o.cond f
 (o.u_neg c fun g =>
 o.conv .i64 g fun h =>
 o.rest h fun i =>
 some (.tuple [i, (.bool true)], a))
 (o.conv .i64 c fun j =>
 o.rest j fun k =>
 some (.tuple [k, (.bool true)], a)))))
def f70 (o : Ops) (K : Nat) (C : CallC) (e : SV) (H : Heap) : Rs :=
 o.bbox e fun a =>
 o.lfld 1 (.box a) fun f =>
 o.lloadp 1 true (.box a) f fun g =>
 o.call (C 82 [g] H) fun d c =>
 o.ext 0 d fun b =>
 o.ext 1 d fun h =>
 o.u_not h fun i =>
 (o.guard i
 ((f70_j1 o K C (.box a) b (.bool true) c))
 (o.gtr b (.int .u64 9223372036854775808) fun j =>
 (o.guard j
 ((f70_j1 o K C (.box a) b (.bool true) c))
 (o.eql b (.int .u64 9223372036854775808) fun k =>
 (o.guard k
 (o.lfld 0 (.box a) fun l =>
 o.lloadp 1 false (.box a) l fun m =>
 o.u_not m fun n =>
 (f70_j1 o K C (.box a) b n c))
 ((f70_j1 o K C (.box a) b (.bool false) c))
 (none)))
 (none)))
 (none))
def f71 (o : Ops) (K : Nat) (C : CallC) (b : SV) (H : Heap) : Rs :=
 o.bbox b fun a =>
 o.lfld 0 (.box a) fun c =>
 o.lloadp 1 false (.box a) c fun d =>
 o.u_not d fun e =>
 o.lfld 1 (.box a) fun f =>
 o.lloadp 1 true (.box a) f fun g =>
 o.call (C 52 [e, g] H) fun h i =>
 o.bstore 0 2 (.box [.bool false, .slice nilSl]) h fun j =>
 o.resc 2 true (.box j) fun k =>
 some (k, i)
def f72_j3 (o : Ops) (K : Nat) (C : CallC) (a b c d e f : SV) (g : Heap) : Rs :=
 o.lfld 0 a fun h =>
 o.lloadp 1 false a h fun i =>
 o.lfld 0 b fun j =>
 o.lloadp 1 false b j fun k =>
 o.b_neq i k fun l =>
 o.lload 0 1 true e fun m =>
 o.call (C 52 [l, m] g) fun n p =>
 o.lload 0 1 true f fun q =>
 o.call (C 52 [(.bool false), q] p) fun r s =>
 o.bstore 0 2 c n fun t =>
 o.bstore 0 2 d r fun u =>
 o.resc 2 true (.box t) fun v =>
 o.resc 2 true (.box u) fun w =>
 some (.tuple [v, w, (.int .i64 0)], s)
def f72_j2 (o : Ops) (K : Nat) (C : CallC) (d a e f b c j : SV) (g : Heap) : Rs :=
 (o.cond j
 (o.lload 0 1 true b fun k =>
 o.call (C 29 [(.int .u64 1)] g) fun l m =>
 o.call (C 57 [k, l] m) fun h n =>
 o.ext 0 h fun p =>
 o.ext 1 h fun x =>
 o.bstore 0 1 b p fun q =>
 o.lfld 1 a fun r =>
 o.lloadp 1 true a r fun s =>
 o.lload 0 1 true c fun t =>
 o.call (C 63 [s, t] n) fun i u =>
 o.ext 0 i fun v =>
 o.ext 1 i fun y =>
 o.bstore 0 1 c v fun w =>
 (f72_j3 o K C d a e f (.box q) (.box w) u))
 ((f72_j3 o K C d a e f b c g)))
def f72 (o : Ops) (K : Nat) (C : CallC) (h i : SV) (H : Heap) : Rs :=
 o.bbox h fun a =>
 o.bbox i fun b =>
 o.lfld 1 (.box a) fun j =>
 o.lloadp 1 true (.box a) j fun k =>
 o.lfld 1 (.box b) fun l =>
 o.lloadp 1 true (.box b) l fun m =>
 o.call (C 76 [k, m] H) fun c d =>
 o.ext 0 c fun n =>
 o.ext 1 c fun p =>
 o.ext 2 c fun f =>
 o.bstore 0 1 (.box [.slice nilSl]) n fun g =>
 o.bstore 0 1 (.box [.slice nilSl]) p fun e =>
 o.neq f (.int .i64 0) fun q =>
 (o.cond q
 (o.build [.bool false, .slice nilSl] [] [] fun r =>
 o.build [.bool false, .slice nilSl] [] [] fun s =>
 o.bstore 0 2 (.box [.bool false, .slice nilSl]) r fun t =>
 o.bstore 0 2 (.box [.bool false, .slice nilSl]) s fun u =>
 o.resc 2 true (.box t) fun v =>
 o.resc 2 true (.box u) fun w =>
 o.rest f fun x =>
 some (.tuple [v, w, x], d))
 (o.lfld 0 (.box a) fun y =>
 o.lloadp 1 false (.box a) y fun z =>
 (o.guard z
 (o.lload 0 1 true (.box e) fun A =>
 o.call (C 16 [A] d) fun B D =>
 o.gtr B (.int .i64 0) fun E =>
 (f72_j2 o K C (.box a) (.box b) (.box [.bool false, .slice nilSl]) (.box [.bool false, .slice nilSl]) (.box g) (.box e) E D))
 ((f72_j2 o K C (.box a) (.box b) (.box [.bool false, .slice nilSl]) (.box [.bool false, .slice nilSl]) (.box g) (.box e) (.bool false) d))
 (none))))
def f73 (o : Ops) (K : Nat) (C : CallC) (c : SV) (H : Heap) : Rs :=
 o.bbox c fun a =>
 o.lload 0 1 true (.box a) fun d =>
 o.call (C 16 [d] H) fun e b =>
 o.gtr e (.int .i64 4096) fun f =>
 (o.cond f
 (o.build [.slice nilSl] [] [] fun g =>
 o.bstore 0 1 (.box [.slice nilSl]) g fun h =>
 o.resc 1 true (.box h) fun i =>
 some (.tuple [i, (.int .i64 3)], b))
 (o.lload 0 1 true (.box a) fun j =>
 o.bstore 0 1 (.box [.slice nilSl]) j fun k =>
 o.resc 1 true (.box k) fun l =>
 some (.tuple [l, (.int .i64 0)], b)))
def f74_l3 (o : Ops) (K : Nat) (C : CallC) (p : SV -> SV -> SV -> SV -> SV -> SV -> Heap -> Rs) : SV -> SV -> SV -> SV -> SV -> SV -> SV -> SV -> SV -> SV -> SV -> SV -> Heap -> (SV -> SV -> SV -> SV -> SV -> SV -> SV -> SV -> SV -> SV -> SV -> SV -> Heap -> Rs) -> Rs := fun c f a d g h i j k l m b e q =>
 o.lss b m fun r =>
 (o.cond r
 (o.idx 1 l b fun s =>
 o.load 1 false s e fun t =>
 o.conv .u64 g fun u =>
 o.conv .u64 t fun v =>
 o.mul u v fun w =>
 o.add d b fun x =>
 o.idx 1 a x fun y =>
 o.load 1 false y e fun z =>
 o.conv .u64 z fun A =>
 o.add w A fun B =>
 o.add h B fun n =>
 o.add d b fun D =>
 o.conv .u32 n fun E =>
 o.idx 1 a D fun F =>
 o.store 1 F E e fun G =>
 o.shr n (.int .u64 32) fun I =>
 o.add b (.int .i64 1) fun J =>
 q c f a d g I i j k l m J G)
 (o.lfld 0 c fun L =>
 o.lloadp 1 false c L fun M =>
 o.len M fun N =>
 o.add d N fun P =>
 o.conv .u32 h fun Q =>
 o.idx 1 a P fun S =>
 o.store 1 S Q e fun T =>
 o.add k (.int .i64 1) fun U =>
 p c f a i j U T))
def f74_l1 (o : Ops) (K : Nat) (C : CallC) : SV -> SV -> SV -> SV -> SV -> SV -> Heap -> (SV -> SV -> SV -> SV -> SV -> SV -> Heap -> Rs) -> Rs := fun b d e f g a c i =>
 o.lss a g fun j =>
 (o.cond j
 (o.idx 1 f a fun k =>
 o.load 1 false k c fun l =>
 o.lfld 0 b fun m =>
 o.lloadp 1 false b m fun h =>
 o.len h fun n =>
 (o.loop12 (f74_l3 o K C i) K b d e a l (.int .u64 0) f g a h n (.int .i64 0) c))
 (o.call (C 39 [e] c) fun p q =>
 o.bstore 0 1 d p fun r =>
 o.resc 1 true (.box r) fun s =>
 some (s, q)))
def f74 (o : Ops) (K : Nat) (C : CallC) (e f : SV) (H : Heap) : Rs :=
 o.bbox e fun a =>
 o.bbox f fun b =>
 o.lfld 0 (.box a) fun g =>
 o.lloadp 1 false (.box a) g fun h =>
 o.len h fun i =>
 o.lfld 0 (.box b) fun j =>
 o.lloadp 1 false (.box b) j fun k =>
 o.len k fun l =>
 o.add i l fun c =>
 o.make 1 4 [.int .u32 0] c c H fun m n =>
 o.lfld 0 (.box a) fun p =>
 o.lloadp 1 false (.box a) p fun d =>
 o.len d fun q =>
 (o.loop6 (f74_l1 o K C) K (.box b) (.box [.slice nilSl]) m d q (.int .i64 0) n)
def f75_l1 (o : Ops) (K : Nat) (C : CallC) : SV -> SV -> SV -> Heap -> (SV -> SV -> SV -> Heap -> Rs) -> Rs := fun b a d e f =>
 o.lfld 0 a fun g =>
 o.lloadp 1 false a g fun h =>
 o.len h fun i =>
 o.gtr i (.int .i64 0) fun j =>
 (o.cond j
 (o.lload 0 1 true b fun k =>
 o.lload 0 1 true a fun l =>
 o.call (C 76 [k, l] e) fun c m =>
 o.ext 0 c fun n =>
 o.ext 1 c fun p =>
 o.ext 2 c fun y =>
 o.bstore 0 1 (.box [.slice nilSl]) n fun z =>
 o.bstore 0 1 (.box [.slice nilSl]) p fun q =>
 o.lload 0 1 true a fun r =>
 o.lload 0 1 true (.box q) fun s =>
 o.bstore 0 1 b r fun t =>
 o.bstore 0 1 a s fun u =>
 f (.box t) (.box u) d m)
 (o.lload 0 1 true b fun v =>
 o.bstore 0 1 d v fun w =>
 o.resc 1 true (.box w) fun x =>
 some (x, e)))
def f75 (o : Ops) (K : Nat) (C : CallC) (a b : SV) (H : Heap) : Rs :=
 o.bbox a fun c =>
 o.bbox b fun d =>
 (o.loop3 (f75_l1 o K C) K (.box c) (.box d) (.box [.slice nilSl]) H)
def f76 (o : Ops) (K : Nat) (C : CallC) (i j : SV) (H : Heap) : Rs :=
 o.bbox i fun b =>
 o.bbox j fun a =>
 o.lfld 0 (.box a) fun k =>
 o.lloadp 1 false (.box a) k fun l =>
 o.len l fun m =>
 o.eql m (.int .i64 0) fun n =>
 (o.cond n
 (o.build [.slice nilSl] [] [] fun p =>
 o.build [.slice nilSl] [] [] fun q =>
 o.bstore 0 1 (.box [.slice nilSl]) p fun r =>
 o.bstore 0 1 (.box [.slice nilSl]) q fun s =>
 o.resc 1 true (.box r) fun t =>
 o.resc 1 true (.box s) fun u =>
 some (.tuple [t, u, (.int .i64 11)], H))
 (o.lload 0 1 true (.box b) fun v =>
 o.lload 0 1 true (.box a) fun w =>
 o.call (C 62 [v, w] H) fun x c =>
 o.lss x (.int .i64 0) fun y =>
 (o.cond y
 (o.build [.slice nilSl] [] [] fun z =>
 o.lload 0 1 true (.box b) fun A =>
 o.bstore 0 1 (.box [.slice nilSl]) z fun B =>
 o.bstore 0 1 (.box [.slice nilSl]) A fun D =>
 o.resc 1 true (.box B) fun E =>
 o.resc 1 true (.box D) fun F =>
 some (.tuple [E, F, (.int .i64 0)], c))
 (o.lfld 0 (.box a) fun G =>
 o.lloadp 1 false (.box a) G fun I =>
 o.len I fun J =>
 o.eql J (.int .i64 1) fun L =>
 (o.cond L
 (o.lfld 0 (.box b) fun M =>
 o.lloadp 1 false (.box b) M fun N =>
 o.append 1 4 (.slice nilSl) N c fun d e =>
 o.lfld 0 (.box a) fun P =>
 o.lloadp 1 false (.box a) P fun Q =>
 o.idx 1 Q (.int .i64 0) fun S =>
 o.load 1 false S e fun T =>
 o.call (C 38 [d, T] e) fun U V =>
 o.call (C 39 [d] V) fun W X =>
 o.conv .u64 U fun Y =>
 o.call (C 29 [Y] X) fun Z aa =>
 o.bstore 0 1 (.box [.slice nilSl]) W fun ab =>
 o.bstore 0 1 (.box [.slice nilSl]) Z fun ac =>
 o.resc 1 true (.box ab) fun ad =>
 o.resc 1 true (.box ac) fun ae =>
 some (.tuple [ad, ae, (.int .i64 0)], aa))
 (o.lload 0 1 true (.box b) fun af =>
 o.lload 0 1 true (.box a) fun ag =>
 o.call (C 83 [af, ag] c) fun f ah =>
 o.ext 0 f fun ai =>
 o.ext 1 f fun aj =>
 o.bstore 0 1 (.box [.slice nilSl]) ai fun g =>
 o.bstore 0 1 (.box [.slice nilSl]) aj fun h =>
 o.lload 0 1 true (.box g) fun ak =>
 o.lload 0 1 true (.box h) fun al =>
 o.bstore 0 1 (.box g) ak fun am =>
 o.bstore 0 1 (.box h) al fun an =>
 o.resc 1 true (.box am) fun ap =>
 o.resc 1 true (.box an) fun aq =>
 some (.tuple [ap, aq, (.int .i64 0)], ah)))))))
def f77_j3 (o : Ops) (K : Nat) (C : CallC) (e : SV -> SV -> SV -> SV -> SV -> Heap -> Rs) (a f g b h i j : SV) (c : Heap) : Rs :=
 o.idx 1 a b fun k =>
 o.load 1 false k c fun l =>
 o.call (C 84 [l, h, g] c) fun d m =>
 o.ext 0 d fun n =>
 o.ext 1 d fun p =>
 o.idx 1 a b fun q =>
 o.store 1 q n m fun r =>
 o.add j (.int .i64 1) fun s =>
 e a f p i s r
def f77_j5 (o : Ops) (K : Nat) (C : CallC) (a : Heap) : Rs :=
 some (.tuple [], a)
def f77_l1 (o : Ops) (K : Nat) (C : CallC) : SV -> SV -> SV -> SV -> SV -> Heap -> (SV -> SV -> SV -> SV -> SV -> Heap -> Rs) -> Rs := fun f c d e a b g =>
 o.lss a e fun h =>
 (o.cond h
 (o.len c fun i =>
 o.lss a i fun j =>
 (o.cond j
 (o.idx 1 c a fun k =>
 o.load 1 false k b fun l =>
 (f77_j3 o K C g f c d a l e a b))
 (o.eql d (.int .u32 0) fun m =>
 (o.cond m
 ((f77_j5 o K C b))
 ((f77_j3 o K C g f c d a (.int .u32 0) e a b))))))
 ((f77_j5 o K C b)))
def f77 (o : Ops) (K : Nat) (C : CallC) (a b : SV) (H : Heap) : Rs :=
 o.len a fun c =>
 (o.loop5 (f77_l1 o K C) K a b (.int .u32 0) c (.int .i64 0) H)
def f78_l3 (o : Ops) (K : Nat) (C : CallC) (j : SV -> SV -> SV -> SV -> SV -> Heap -> Rs) : SV -> SV -> SV -> SV -> SV -> SV -> SV -> SV -> Heap -> (SV -> SV -> SV -> SV -> SV -> SV -> SV -> SV -> Heap -> Rs) -> Rs := fun c d e f g h i a b k =>
 o.lss a i fun l =>
 (o.cond l
 (o.idx 2 h a fun m =>
 o.load 2 true m b fun n =>
 o.bstore 0 2 (.box [.bool false, .slice nilSl]) n fun p =>
 o.lload 0 2 true (.box p) fun q =>
 o.call (C 37 [q] b) fun r s =>
 o.call (C 16 [r] s) fun t u =>
 o.max [d, t] fun v =>
 o.add a (.int .i64 1) fun w =>
 k c v e f g h i w u)
 (o.add g (.int .i64 1) fun x =>
 j c d e f x b))
def f78_l1 (o : Ops) (K : Nat) (C : CallC) : SV -> SV -> SV -> SV -> SV -> Heap -> (SV -> SV -> SV -> SV -> SV -> Heap -> Rs) -> Rs := fun c d e f a b j =>
 o.lss a f fun k =>
 (o.cond k
 (o.idx 1 e a fun l =>
 o.load 1 false l b fun g =>
 o.len g fun m =>
 (o.loop8 (f78_l3 o K C j) K c d e f a g m (.int .i64 0) b))
 (o.lload 0 1 true c fun n =>
 o.call (C 46 [n] b) fun h p =>
 o.ext 0 h fun q =>
 o.ext 1 h fun r =>
 o.min [q, r] fun i =>
 o.mul (.int .i64 2) i fun s =>
 o.conv .u64 i fun t =>
 o.call (C 85 [t] p) fun u v =>
 o.add d u fun w =>
 o.mul s w fun x =>
 o.gtr x (.int .i64 4096) fun y =>
 o.rest y fun z =>
 some (z, v)))
def f78 (o : Ops) (K : Nat) (C : CallC) (c : SV) (H : Heap) : Rs :=
 o.bbox c fun a =>
 o.lfld 0 (.box a) fun d =>
 o.lloadp 1 false (.box a) d fun b =>
 o.len b fun e =>
 (o.loop5 (f78_l1 o K C) K (.box a) (.int .i64 0) b e (.int .i64 0) H)
def f79_j1 (o : Ops) (K : Nat) (C : CallC) (d e b c f : SV) (a : Heap) : Rs :=
 (o.cond f
 (o.build [.bool false, .slice nilSl] [] [] fun g =>
 o.bstore 0 2 c g fun h =>
 o.resc 2 true (.box h) fun i =>
 some (i, a))
 (o.lfld 0 b fun j =>
 o.lloadp 1 false b j fun k =>
 o.idx 1 k d fun l =>
 o.load 1 false l a fun m =>
 o.idx 2 m e fun n =>
 o.load 2 true n a fun p =>
 o.bstore 0 2 c p fun q =>
 o.resc 2 true (.box q) fun r =>
 some (r, a)))
def f79 (o : Ops) (K : Nat) (C : CallC) (f a b : SV) (H : Heap) : Rs :=
 o.bbox f fun c =>
 o.lload 0 1 true (.box c) fun g =>
 o.call (C 46 [g] H) fun e d =>
 o.ext 0 e fun h =>
 o.ext 1 e fun i =>
 o.lss a (.int .i64 0) fun j =>
 (o.guard j
 ((f79_j1 o K C a b (.box c) (.box [.bool false, .slice nilSl]) (.bool true) d))
 (o.geq a h fun k =>
 (o.guard k
 ((f79_j1 o K C a b (.box c) (.box [.bool false, .slice nilSl]) (.bool true) d))
 (o.lss b (.int .i64 0) fun l =>
 (o.guard l
 ((f79_j1 o K C a b (.box c) (.box [.bool false, .slice nilSl]) (.bool true) d))
 (o.geq b i fun m =>
 (f79_j1 o K C a b (.box c) (.box [.bool false, .slice nilSl]) m d))
 (none)))
 (none)))
 (none))
def f80 (o : Ops) (K : Nat) (C : CallC) (j k l m b c : SV) (H : Heap) : Rs :=
 o.load 1 false m H fun n =>
 o.idx 1 n j fun p =>
 o.load 1 false p H fun q =>
 o.call (C 9 [q] H) fun r a =>
 o.load 1 false b a fun s =>
 o.idx 1 s k fun d =>
 o.load 1 false d a fun t =>
 o.call (C 9 [t] a) fun u v =>
 o.call (C 55 [r, u] v) fun e w =>
 o.ext 0 e fun x =>
 o.ext 1 e fun L =>
 o.bstore 0 2 (.box [.bool false, .slice nilSl]) x fun f =>
 (o.same b H a ((o.same d H a (o.lload 0 2 true (.box f) fun y =>
 o.call (C 9 [l] w) fun z A =>
 o.call (C 55 [y, z] A) fun g h =>
 o.ext 0 g fun B =>
 o.ext 1 g fun M =>
 o.bstore 0 2 (.box f) B fun D =>
 o.load 2 true c h fun E =>
 o.lload 0 2 true (.box D) fun F =>
 o.call (C 35 [E, F] h) fun i G =>
 o.ext 0 i fun I =>
 o.ext 1 i fun N =>
 o.store 2 c I G fun J =>
 some ((.bool true), J)))))
def f81 (o : Ops) (K : Nat) (C : CallC) (c d a e : SV) (H : Heap) : Rs :=
 o.load 1 false a H fun f =>
 o.neq f (.int .i64 0) fun g =>
 (o.cond g
 (o.build [.bool false, .slice nilSl] [] [] fun h =>
 o.bstore 0 2 (.box [.bool false, .slice nilSl]) h fun i =>
 o.resc 2 true (.box i) fun j =>
 some (j, H))
 (o.load 1 false e H fun k =>
 o.callv C [k, c, d] H fun b l =>
 o.ext 0 b fun m =>
 o.ext 1 b fun n =>
 o.bstore 0 2 (.box [.bool false, .slice nilSl]) m fun p =>
 o.store 1 a n l fun q =>
 o.lload 0 2 true (.box p) fun r =>
 o.bstore 0 2 (.box [.bool false, .slice nilSl]) r fun s =>
 o.resc 2 true (.box s) fun t =>
 some (t, q)))
def f82 (o : Ops) (K : Nat) (C : CallC) (c : SV) (H : Heap) : Rs :=
 o.bbox c fun a =>
 o.lfld 0 (.box a) fun d =>
 o.lloadp 1 false (.box a) d fun e =>
 o.len e fun b =>
 o.eql b (.int .i64 0) fun f =>
 (o.cond f
 (some (.tuple [(.int .u64 0), (.bool true)], H))
 (o.eql b (.int .i64 1) fun g =>
 (o.cond g
 (o.lfld 0 (.box a) fun h =>
 o.lloadp 1 false (.box a) h fun i =>
 o.idx 1 i (.int .i64 0) fun j =>
 o.load 1 false j H fun k =>
 o.conv .u64 k fun l =>
 o.rest l fun m =>
 some (.tuple [m, (.bool true)], H))
 (o.eql b (.int .i64 2) fun n =>
 (o.cond n
 (o.lfld 0 (.box a) fun p =>
 o.lloadp 1 false (.box a) p fun q =>
 o.idx 1 q (.int .i64 1) fun r =>
 o.load 1 false r H fun s =>
 o.conv .u64 s fun t =>
 o.shl t (.int .u64 32) fun u =>
 o.lfld 0 (.box a) fun v =>
 o.lloadp 1 false (.box a) v fun w =>
 o.idx 1 w (.int .i64 0) fun x =>
 o.load 1 false x H fun y =>
 o.conv .u64 y fun z =>
 o.or u z fun A =>
 o.rest A fun B =>
 some (.tuple [B, (.bool true)], H))
 (some (.tuple [(.int .u64 0), (.bool false)], H)))))))
def f83_j7 (o : Ops) (K : Nat) (C : CallC) (a : SV -> SV -> SV -> SV -> SV -> SV -> SV -> SV -> Heap -> Rs) (b c d e f g h i : SV) (j : Heap) : Rs :=
 o.sub i (.int .i64 1) fun k =>
 a b c d e f g h k j
def f83_j11 (o : Ops) (K : Nat) (C : CallC) (c : SV -> SV -> SV -> SV -> SV -> SV -> SV -> SV -> SV -> SV -> SV -> SV -> Heap -> Rs) (d e f g h i j k a b l m n : SV) (p : Heap) : Rs :=
 o.conv .u32 b fun q =>
 o.idx 1 a l fun r =>
 o.store 1 r q p fun s =>
 o.shr b (.int .u64 32) fun t =>
 o.add n (.int .i64 1) fun u =>
 c d e f g h i j k a t m u s
def f83_l9 (o : Ops) (K : Nat) (C : CallC) (p : SV -> SV -> SV -> SV -> SV -> SV -> SV -> SV -> Heap -> Rs) : SV -> SV -> SV -> SV -> SV -> SV -> SV -> SV -> SV -> SV -> SV -> SV -> Heap -> (SV -> SV -> SV -> SV -> SV -> SV -> SV -> SV -> SV -> SV -> SV -> SV -> Heap -> Rs) -> Rs := fun e f c g d h i j k q l a b m =>
 o.lss a l fun r =>
 (o.cond r
 (o.idx 1 k a fun s =>
 o.load 1 false s b fun t =>
 o.conv .u64 t fun u =>
 o.add q u fun n =>
 o.lss a c fun v =>
 (o.cond v
 (o.idx 1 d a fun w =>
 o.load 1 false w b fun x =>
 o.conv .u64 x fun y =>
 o.add n y fun z =>
 (f83_j11 o K C m e f c g d h i j k z a l a b))
 ((f83_j11 o K C m e f c g d h i j k n a l a b))))
 ((f83_j7 o K C p e f c g d h i j b)))
def f83_j6 (o : Ops) (K : Nat) (C : CallC) (h : SV -> SV -> SV -> SV -> SV -> SV -> SV -> SV -> Heap -> Rs) (i j b k d e c a f : SV) (l : Heap) : Rs :=
 o.add a b fun n =>
 o.add n (.int .i64 1) fun p =>
 o.add a b fun q =>
 o.add q (.int .i64 1) fun r =>
 o.slice111 1 e a p r l fun g =>
 o.conv .u32 f fun s =>
 o.call (C 88 [g, d, s] l) fun t m =>
 o.u_not t fun u =>
 (o.cond u
 (o.conv .u32 f fun v =>
 o.idx 1 c a fun w =>
 o.store 1 w v m fun x =>
 (f83_j7 o K C h i j b k d e c a x))
 (o.conv .u32 f fun y =>
 o.sub y (.int .u32 1) fun z =>
 o.idx 1 c a fun A =>
 o.store 1 A z m fun B =>
 o.len g fun D =>
 (o.loop12 (f83_l9 o K C h) K i j b k d e c a g (.int .u64 0) D (.int .i64 0) B)))
def f83_j4 (o : Ops) (K : Nat) (C : CallC) (j : SV -> SV -> SV -> SV -> SV -> SV -> SV -> SV -> Heap -> Rs) (n : SV -> SV -> SV -> SV -> SV -> SV -> SV -> SV -> SV -> SV -> Heap -> Rs) (d e a f b g h i k p q : SV) (c : Heap) : Rs :=
 (o.cond q
 (o.sub k (.int .u64 1) fun l =>
 o.sub a (.int .i64 1) fun r =>
 o.idx 1 b r fun s =>
 o.load 1 false s c fun t =>
 o.conv .u64 t fun u =>
 o.add p u fun m =>
 o.shr m (.int .u64 32) fun v =>
 o.neq v (.int .u64 0) fun w =>
 (o.cond w
 ((f83_j6 o K C j d e a f b g h i l c))
 (n d e a f b g h i l m c)))
 ((f83_j6 o K C j d e a f b g h i k c)))
def f83_l3 (o : Ops) (K : Nat) (C : CallC) (h : SV -> SV -> SV -> SV -> SV -> SV -> SV -> SV -> Heap -> Rs) : SV -> SV -> SV -> SV -> SV -> SV -> SV -> SV -> SV -> SV -> Heap -> (SV -> SV -> SV -> SV -> SV -> SV -> SV -> SV -> SV -> SV -> Heap -> Rs) -> Rs := fun i j a k d e l f b g c m =>
 o.shr b (.int .u64 32) fun n =>
 o.neq n (.int .u64 0) fun p =>
 (o.guard p
 ((f83_j4 o K C h m i j a k d e l f b g (.bool true) c))
 (o.sub a (.int .i64 2) fun q =>
 o.idx 1 d q fun r =>
 o.load 1 false r c fun s =>
 o.conv .u64 s fun t =>
 o.mul b t fun u =>
 o.shl g (.int .u64 32) fun v =>
 o.add f a fun w =>
 o.sub w (.int .i64 2) fun x =>
 o.idx 1 e x fun y =>
 o.load 1 false y c fun z =>
 o.conv .u64 z fun A =>
 o.or v A fun B =>
 o.gtr u B fun D =>
 (f83_j4 o K C h m i j a k d e l f b g D c))
 (none))
def f83_l1 (o : Ops) (K : Nat) (C : CallC) : SV -> SV -> SV -> SV -> SV -> SV -> SV -> SV -> Heap -> (SV -> SV -> SV -> SV -> SV -> SV -> SV -> SV -> Heap -> Rs) -> Rs := fun f g b h e c i d a k =>
 o.geq d (.int .i64 0) fun l =>
 (o.cond l
 (o.add d b fun m =>
 o.idx 1 c m fun n =>
 o.load 1 false n a fun p =>
 o.conv .u64 p fun q =>
 o.shl q (.int .u64 32) fun r =>
 o.add d b fun s =>
 o.sub s (.int .i64 1) fun t =>
 o.idx 1 c t fun u =>
 o.load 1 false u a fun v =>
 o.conv .u64 v fun w =>
 o.or r w fun j =>
 o.sub b (.int .i64 1) fun x =>
 o.idx 1 e x fun y =>
 o.load 1 false y a fun z =>
 o.conv .u64 z fun A =>
 o.quo j A fun B =>
 o.sub b (.int .i64 1) fun D =>
 o.idx 1 e D fun E =>
 o.load 1 false E a fun F =>
 o.conv .u64 F fun G =>
 o.rem j G fun I =>
 (o.loop10 (f83_l3 o K C k) K f g b h e c i d B I a))
 (o.call (C 39 [i] a) fun J L =>
 o.call (C 89 [c, h] L) fun M N =>
 o.bstore 0 1 f J fun P =>
 o.bstore 0 1 g M fun Q =>
 o.resc 1 true (.box P) fun S =>
 o.resc 1 true (.box Q) fun T =>
 some (.tuple [S, T], N)))
def f83 (o : Ops) (K : Nat) (C : CallC) (g h : SV) (H : Heap) : Rs :=
 o.bbox g fun b =>
 o.bbox h fun a =>
 o.lfld 0 (.box a) fun i =>
 o.lloadp 1 false (.box a) i fun j =>
 o.len j fun c =>
 o.lfld 0 (.box a) fun k =>
 o.lloadp 1 false (.box a) k fun l =>
 o.lfld 0 (.box a) fun m =>
 o.lloadp 1 false (.box a) m fun n =>
 o.len n fun p =>
 o.sub p (.int .i64 1) fun q =>
 o.idx 1 l q fun r =>
 o.load 1 false r H fun s =>
 o.call (C 86 [s] H) fun d t =>
 o.lfld 0 (.box a) fun u =>
 o.lloadp 1 false (.box a) u fun v =>
 o.call (C 87 [v, d, c] t) fun w x =>
 o.lfld 0 (.box b) fun y =>
 o.lloadp 1 false (.box b) y fun z =>
 o.lfld 0 (.box b) fun A =>
 o.lloadp 1 false (.box b) A fun B =>
 o.len B fun D =>
 o.add D (.int .i64 1) fun E =>
 o.call (C 87 [z, d, E] x) fun f F =>
 o.len f fun G =>
 o.sub G c fun e =>
 o.make 1 4 [.int .u32 0] e e F fun I J =>
 o.sub e (.int .i64 1) fun L =>
 (o.loop8 (f83_l1 o K C) K (.box [.slice nilSl]) (.box [.slice nilSl]) c d w f I L J)
def f84 (o : Ops) (K : Nat) (C : CallC) (a b d : SV) (H : Heap) : Rs :=
 o.sub a b fun e =>
 o.sub e d fun c =>
 o.u_xor a fun f =>
 o.and f b fun g =>
 o.xor a b fun h =>
 o.u_xor h fun i =>
 o.and i c fun j =>
 o.or g j fun k =>
 o.shr k (.int .u64 31) fun l =>
 o.rest c fun m =>
 o.rest l fun n =>
 some (.tuple [m, n], H)
def f85 (o : Ops) (K : Nat) (C : CallC) (a : SV) (H : Heap) : Rs :=
 o.call (C 90 [a] H) fun b c =>
 o.rest b fun d =>
 some (d, c)
def f86 (o : Ops) (K : Nat) (C : CallC) (a : SV) (H : Heap) : Rs :=
 o.call (C 40 [a] H) fun b c =>
 o.sub (.int .i64 32) b fun d =>
 o.rest d fun e =>
 some (e, c)
def f87_j3 (o : Ops) (K : Nat) (C : CallC) (c : SV -> SV -> SV -> SV -> SV -> SV -> Heap -> Rs) (d e a b f g h : SV) (i : Heap) : Rs :=
 o.conv .u32 b fun j =>
 o.idx 1 a f fun k =>
 o.store 1 k j i fun l =>
 o.shr b (.int .u64 32) fun m =>
 o.add h (.int .i64 1) fun n =>
 c d e a m g n l
def f87_l1 (o : Ops) (K : Nat) (C : CallC) : SV -> SV -> SV -> SV -> SV -> SV -> Heap -> (SV -> SV -> SV -> SV -> SV -> SV -> Heap -> Rs) -> Rs := fun b d e g f a c h =>
 o.lss a f fun i =>
 (o.cond i
 (o.len b fun j =>
 o.lss a j fun k =>
 (o.cond k
 (o.idx 1 b a fun l =>
 o.load 1 false l c fun m =>
 o.conv .u64 m fun n =>
 o.shl n d fun p =>
 o.or g p fun q =>
 (f87_j3 o K C h b d e q a f a c))
 ((f87_j3 o K C h b d e g a f a c))))
 (o.rest e fun r =>
 some (r, c)))
def f87 (o : Ops) (K : Nat) (C : CallC) (c d a : SV) (H : Heap) : Rs :=
 o.make 1 4 [.int .u32 0] a a H fun b e =>
 o.len b fun f =>
 (o.loop6 (f87_l1 o K C) K c d b (.int .u64 0) f (.int .i64 0) e)
def f88_j3 (o : Ops) (K : Nat) (C : CallC) (f : SV -> SV -> SV -> SV -> SV -> SV -> SV -> Heap -> Rs) (a g h b i c j k : SV) (d : Heap) : Rs :=
 o.idx 1 a c fun l =>
 o.load 1 false l d fun m =>
 o.conv .u32 b fun n =>
 o.call (C 84 [m, n, i] d) fun e p =>
 o.ext 0 e fun q =>
 o.ext 1 e fun r =>
 o.idx 1 a c fun s =>
 o.store 1 s q p fun t =>
 o.shr b (.int .u64 32) fun u =>
 o.add k (.int .i64 1) fun v =>
 f a g h u r j v t
def f88_l1 (o : Ops) (K : Nat) (C : CallC) : SV -> SV -> SV -> SV -> SV -> SV -> SV -> Heap -> (SV -> SV -> SV -> SV -> SV -> SV -> SV -> Heap -> Rs) -> Rs := fun g b d h e f a c i =>
 o.lss a f fun j =>
 (o.cond j
 (o.len b fun k =>
 o.lss a k fun l =>
 (o.cond l
 (o.idx 1 b a fun m =>
 o.load 1 false m c fun n =>
 o.conv .u64 n fun p =>
 o.conv .u64 d fun q =>
 o.mul p q fun r =>
 o.add h r fun s =>
 (f88_j3 o K C i g b d s e a f a c))
 ((f88_j3 o K C i g b d h e a f a c))))
 (o.neq e (.int .u32 0) fun t =>
 o.rest t fun u =>
 some (u, c)))
def f88 (o : Ops) (K : Nat) (C : CallC) (a b c : SV) (H : Heap) : Rs :=
 o.len a fun d =>
 (o.loop7 (f88_l1 o K C) K a b c (.int .u64 0) (.int .u32 0) d (.int .i64 0) H)
def f89_j3 (o : Ops) (K : Nat) (C : CallC) (c : SV -> SV -> SV -> SV -> SV -> SV -> Heap -> Rs) (d a e b f g h i : SV) (j : Heap) : Rs :=
 o.shr g a fun k =>
 o.conv .u32 k fun l =>
 o.idx 1 b f fun m =>
 o.store 1 m l j fun n =>
 o.add i (.int .i64 1) fun p =>
 c d a e b h p n
def f89_l1 (o : Ops) (K : Nat) (C : CallC) : SV -> SV -> SV -> SV -> SV -> SV -> Heap -> (SV -> SV -> SV -> SV -> SV -> SV -> Heap -> Rs) -> Rs := fun b g d e f a c h =>
 o.lss a f fun j =>
 (o.cond j
 (o.idx 1 b a fun k =>
 o.load 1 false k c fun l =>
 o.conv .u64 l fun i =>
 o.add a (.int .i64 1) fun m =>
 o.len b fun n =>
 o.lss m n fun p =>
 (o.cond p
 (o.add a (.int .i64 1) fun q =>
 o.idx 1 b q fun r =>
 o.load 1 false r c fun s =>
 o.conv .u64 s fun t =>
 o.shl t (.int .u64 32) fun u =>
 o.or i u fun v =>
 (f89_j3 o K C h b g d e a v f a c))
 ((f89_j3 o K C h b g d e a i f a c))))
 (o.call (C 39 [e] c) fun w x =>
 o.bstore 0 1 d w fun y =>
 o.resc 1 true (.box y) fun z =>
 some (z, x)))
def f89 (o : Ops) (K : Nat) (C : CallC) (a c : SV) (H : Heap) : Rs :=
 o.len a fun b =>
 o.make 1 4 [.int .u32 0] b b H fun d e =>
 o.len a fun f =>
 (o.loop6 (f89_l1 o K C) K a c (.box [.slice nilSl]) d f (.int .i64 0) e)
def f90_j3 (o : Ops) (K : Nat) (C : CallC) (a b : SV) (c : Heap) : Rs :=
 o.conv .u8 a fun d =>
 o.stridx (.str [0, 1, 2, 2, 3, 3, 3, 3, 4, 4, 4, 4, 4, 4, 4, 4, 5, 5, 5, 5, 5, 5, 5, 5, 5, 5, 5, 5, 5, 5, 5, 5, 6, 6, 6, 6, 6, 6, 6, 6, 6, 6, 6, 6, 6, 6, 6, 6, 6, 6, 6, 6, 6, 6, 6, 6, 6, 6, 6, 6, 6, 6, 6, 6, 7, 7, 7, 7, 7, 7, 7, 7, 7, 7, 7, 7, 7, 7, 7, 7, 7, 7, 7, 7, 7, 7, 7, 7, 7, 7, 7, 7, 7, 7, 7, 7, 7, 7, 7, 7, 7, 7, 7, 7, 7, 7, 7, 7, 7, 7, 7, 7, 7, 7, 7, 7, 7, 7, 7, 7, 7, 7, 7, 7, 7, 7, 7, 7, 8, 8, 8, 8, 8, 8, 8, 8, 8, 8, 8, 8, 8, 8, 8, 8, 8, 8, 8, 8, 8, 8, 8, 8, 8, 8, 8, 8, 8, 8, 8, 8, 8, 8, 8, 8, 8, 8, 8, 8, 8, 8, 8, 8, 8, 8, 8, 8, 8, 8, 8, 8, 8, 8, 8, 8, 8, 8, 8, 8, 8, 8, 8, 8, 8, 8, 8, 8, 8, 8, 8, 8, 8, 8, 8, 8, 8, 8, 8, 8, 8, 8, 8, 8, 8, 8, 8, 8, 8, 8, 8, 8, 8, 8, 8, 8, 8, 8, 8, 8, 8, 8, 8, 8, 8, 8, 8, 8, 8, 8, 8, 8, 8, 8, 8, 8, 8, 8, 8, 8, 8, 8, 8, 8, 8, 8, 8, 8]) d fun e =>
 o.conv .i64 e fun f =>
 o.add b f fun g =>
 o.rest g fun h =>
 some (h, c)
def f90_j2 (o : Ops) (K : Nat) (C : CallC) (a b : SV) (c : Heap) : Rs :=
 o.geq a (.int .u64 256) fun d =>
 (o.cond d
 (o.shr a (.int .u64 8) fun e =>
 o.add b (.int .i64 8) fun f =>
 (f90_j3 o K C e f c))
 ((f90_j3 o K C a b c)))
def f90_j1 (o : Ops) (K : Nat) (C : CallC) (a b : SV) (c : Heap) : Rs :=
 o.geq a (.int .u64 65536) fun d =>
 (o.cond d
 (o.shr a (.int .u64 16) fun e =>
 o.add b (.int .i64 16) fun f =>
 (f90_j2 o K C e f c))
 ((f90_j2 o K C a b c)))
def f90 (o : Ops) (K : Nat) (C : CallC) (a : SV) (H : Heap) : Rs :=
 o.geq a (.int .u64 4294967296) fun b =>
 (o.cond b
 (o.shr a (.int .u64 32) fun c =>
 (f90_j1 o K C c (.int .i64 32) H))
 ((f90_j1 o K C a (.int .i64 0) H)))
end Go.Sh.Of
