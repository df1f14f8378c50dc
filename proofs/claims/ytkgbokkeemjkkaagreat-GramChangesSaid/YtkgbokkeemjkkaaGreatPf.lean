/- Plain forms, printed by a program. -/
import Derived.Test.YtkgbokkeemjkkaaGreatSh26
set_option linter.unusedVariables false
set_option maxRecDepth 100000
namespace Go.Sh.Of
open Go
def f3_j8 (o : Ops) (K : Nat) (C : CallC) (a : SV) (b : Heap) : Rs :=
 o.rest a fun c =>
 some (c, b)
def f3_j6 (o : Ops) (K : Nat) (C : CallC) (c d e f g h : SV) (a : Heap) : Rs :=
 (o.cond h
 (some ((.bool false), a))
 (o.call (C 14 [e] a) fun m i =>
 o.call (C 12 [f, g] i) fun j b =>
 (o.guard j
 (o.call (C 13 [c, d] b) fun k l =>
 (f3_j8 o K C k l))
 ((f3_j8 o K C (.bool false) b))
 (none))))
def f3_j5 (o : Ops) (K : Nat) (C : CallC) (a b c i e j d g : SV) (f : Heap) : Rs :=
 o.neq i g fun k =>
 (o.guard k
 ((f3_j6 o K C a b c e d (.bool true) f))
 (o.neq j g fun l =>
 (o.guard l
 ((f3_j6 o K C a b c e d (.bool true) f))
 (o.call (C 12 [c, d] f) fun m h =>
 o.u_not m fun n =>
 (o.guard n
 ((f3_j6 o K C a b c e d (.bool true) h))
 (o.call (C 13 [a, b] h) fun p q =>
 o.u_not p fun r =>
 (f3_j6 o K C a b c e d r q))
 (none)))
 (none)))
 (none))
def f3_j3 (o : Ops) (K : Nat) (C : CallC) (a c n p : SV) (d : Heap) : Rs :=
 (o.cond p
 (some ((.bool true), d))
 (o.call (C 8 [a] d) fun b q =>
 o.lload 0 1 true c fun r =>
 o.call (C 9 [b, r] q) fun e s =>
 o.ext 0 e fun f =>
 o.ext 1 e fun g =>
 o.lload 0 1 true c fun t =>
 o.call (C 9 [b, t] s) fun h u =>
 o.ext 0 h fun i =>
 o.ext 1 h fun j =>
 o.call (C 10 [a] u) fun k l =>
 o.eql k (.int .i64 0) fun v =>
 (o.cond v
 (o.call (C 11 [a, n] l) fun m w =>
 o.ext 0 m fun x =>
 o.ext 1 m fun y =>
 (f3_j5 o K C a b f g i j x y w))
 ((f3_j5 o K C a b f g i j (.slice nilSl) k l)))))
def f3_j1 (o : Ops) (K : Nat) (C : CallC) (a b i : SV) (c : Heap) : Rs :=
 (o.cond i
 (o.call (C 4 [] c) fun j k =>
 o.rest j fun l =>
 some (l, k))
 (o.call (C 6 [b] c) fun d m =>
 o.ext 0 d fun n =>
 o.ext 1 d fun p =>
 o.bstore 0 1 (.box [.slice nilSl]) n fun e =>
 o.call (C 7 [b] m) fun f g =>
 o.ext 0 f fun h =>
 o.ext 1 f fun q =>
 o.neq p (.int .i64 0) fun r =>
 (o.guard r
 ((f3_j3 o K C a (.box e) h (.bool true) g))
 (o.neq q (.int .i64 0) fun s =>
 (f3_j3 o K C a (.box e) h s g))
 (none))))
def f3 (o : Ops) (K : Nat) (C : CallC) (a b : SV) (H : Heap) : Rs :=
 o.call (C 4 [] H) fun e c =>
 o.u_not e fun f =>
 (o.guard f
 ((f3_j1 o K C a b (.bool true) c))
 (o.hbuild 1 [.slice nilSl] [(0, 1)] [a] c fun g h =>
 o.call (C 5 [g] h) fun i d =>
 (o.guard i
 ((f3_j1 o K C a b (.bool true) d))
 (o.len b fun j =>
 o.gtr j (.int .i64 100) fun k =>
 (f3_j1 o K C a b k d))
 (none)))
 (none))
def f4_j1 (o : Ops) (K : Nat) (C : CallC) (a : SV) (b : Heap) : Rs :=
 o.rest a fun c =>
 some (c, b)
def f4 (o : Ops) (K : Nat) (C : CallC) (H : Heap) : Rs :=
 o.hbuild 1 [.int .i64 0, .int .i64 0] [(0, 1), (1, 1)] [(.int .i64 2), (.int .i64 1)] H fun j k =>
 o.hbuild 1 [.int .i64 0, .int .i64 0] [(0, 1), (1, 1)] [(.int .i64 1), (.int .i64 2)] k fun l m =>
 o.hbuild 1 [.slice nilSl, .slice nilSl] [(0, 1), (1, 1)] [j, l] m fun d n =>
 o.call (C 15 [d] n) fun e p =>
 o.ext 0 e fun q =>
 o.ext 1 e fun r =>
 o.bstore 0 1 (.box [.slice nilSl]) q fun s =>
 o.hbuild 1 [.int .i64 0, .int .i64 0] [(0, 1), (1, 1)] [(.int .i64 1), (.int .i64 (-1))] p fun t u =>
 o.call (C 16 [d, t] u) fun f v =>
 o.ext 0 f fun w =>
 o.ext 1 f fun x =>
 o.hbuild 1 [.int .i64 0, .int .i64 0] [(0, 1), (1, 1)] [(.int .i64 1), (.int .i64 1)] v fun y z =>
 o.hbuild 1 [.int .i64 0, .int .i64 0] [(0, 1), (1, 1)] [(.int .i64 0), (.int .i64 1)] z fun A B =>
 o.hbuild 1 [.slice nilSl, .slice nilSl] [(0, 1), (1, 1)] [y, A] B fun D E =>
 o.call (C 17 [D] E) fun g F =>
 o.ext 0 g fun G =>
 o.ext 1 g fun aG =>
 o.bstore 0 1 (.box [.slice nilSl]) G fun I =>
 o.lload 0 1 true (.box I) fun J =>
 o.call (C 9 [d, J] F) fun h b =>
 o.ext 0 h fun c =>
 o.ext 1 h fun L =>
 o.eql r (.int .i64 0) fun M =>
 (o.guard M
 (o.eql x (.int .i64 0) fun N =>
 (o.guard N
 (o.eql L (.int .i64 0) fun P =>
 (o.guard P
 (o.lload 0 1 true (.box s) fun Q =>
 o.call (C 18 [Q] b) fun S a =>
 o.eql S (.str [51]) fun T =>
 (o.guard T
 (o.eql w (.int .i64 2) fun U =>
 (o.guard U
 (o.len c fun V =>
 o.eql V (.int .i64 2) fun W =>
 (o.guard W
 (o.idx 1 c (.int .i64 0) fun X =>
 o.load 1 false X a fun Y =>
 o.idx 1 Y (.int .i64 0) fun Z =>
 o.load 1 false Z a fun aa =>
 o.eql aa (.int .i64 6) fun ab =>
 (o.guard ab
 (o.idx 1 c (.int .i64 0) fun ac =>
 o.load 1 false ac a fun ad =>
 o.idx 1 ad (.int .i64 1) fun ae =>
 o.load 1 false ae a fun af =>
 o.eql af (.int .i64 3) fun ag =>
 (o.guard ag
 (o.idx 1 c (.int .i64 1) fun ah =>
 o.load 1 false ah a fun ai =>
 o.idx 1 ai (.int .i64 1) fun aj =>
 o.load 1 false aj a fun ak =>
 o.eql ak (.int .i64 2) fun al =>
 (o.guard al
 (o.hbuild 1 [.int .i64 0, .int .i64 0] [(0, 1), (1, 1)] [(.int .i64 1), (.int .i64 2)] a fun am an =>
 o.hbuild 1 [.int .i64 0, .int .i64 0] [(0, 1), (1, 1)] [(.int .i64 2), (.int .i64 1)] an fun ap aq =>
 o.hbuild 1 [.slice nilSl, .slice nilSl] [(0, 1), (1, 1)] [am, ap] aq fun ar as =>
 o.call (C 19 [ar] as) fun au i =>
 o.eql au (.int .i64 6) fun av =>
 (o.guard av
 (o.hbuild 1 [.int .i64 0, .int .i64 0] [(0, 1), (1, 1)] [(.int .i64 1), (.int .i64 0)] i fun aw ax =>
 o.hbuild 1 [.int .i64 0, .int .i64 0] [(0, 1), (1, 1)] [(.int .i64 1), (.int .i64 1)] ax fun ay az =>
 o.hbuild 1 [.slice nilSl, .slice nilSl] [(0, 1), (1, 1)] [aw, ay] az fun aA aB =>
 o.call (C 19 [aA] aB) fun aD aE =>
 o.eql aD (.int .i64 6) fun aF =>
 (f4_j1 o K C aF aE))
 ((f4_j1 o K C (.bool false) i))
 (none)))
 ((f4_j1 o K C (.bool false) a))
 (none)))
 ((f4_j1 o K C (.bool false) a))
 (none)))
 ((f4_j1 o K C (.bool false) a))
 (none)))
 ((f4_j1 o K C (.bool false) a))
 (none)))
 ((f4_j1 o K C (.bool false) a))
 (none)))
 ((f4_j1 o K C (.bool false) a))
 (none)))
 ((f4_j1 o K C (.bool false) b))
 (none)))
 ((f4_j1 o K C (.bool false) b))
 (none)))
 ((f4_j1 o K C (.bool false) b))
 (none))
def f5_l4 (o : Ops) (K : Nat) (C : CallC) (h : SV -> SV -> SV -> Heap -> Rs) : SV -> SV -> SV -> SV -> SV -> SV -> Heap -> (SV -> SV -> SV -> SV -> SV -> SV -> Heap -> Rs) -> Rs := fun b d e f g c a i =>
 o.lss c g fun j =>
 (o.cond j
 (o.idx 1 b d fun k =>
 o.load 1 false k a fun l =>
 o.idx 1 l c fun m =>
 o.load 1 false m a fun n =>
 o.len n fun p =>
 o.gtr p (.int .i64 100) fun q =>
 (o.cond q
 (some ((.bool true), a))
 (o.add c (.int .i64 1) fun r =>
 i b d e f g r a)))
 (o.add f (.int .i64 1) fun s =>
 h b e s a))
def f5_l1 (o : Ops) (K : Nat) (C : CallC) : SV -> SV -> SV -> Heap -> (SV -> SV -> SV -> Heap -> Rs) -> Rs := fun c d a b e =>
 o.lss a d fun f =>
 (o.cond f
 (o.idx 1 c a fun g =>
 o.load 1 false g b fun h =>
 o.len h fun i =>
 o.gtr i (.int .i64 100) fun j =>
 (o.cond j
 (some ((.bool true), b))
 (o.idx 1 c a fun k =>
 o.load 1 false k b fun l =>
 o.len l fun m =>
 (o.loop6 (f5_l4 o K C e) K c a d a m (.int .i64 0) b))))
 (some ((.bool false), b)))
def f5 (o : Ops) (K : Nat) (C : CallC) (a : SV) (H : Heap) : Rs :=
 o.len a fun b =>
 (o.loop3 (f5_l1 o K C) K a b (.int .i64 0) H)
def f6 (o : Ops) (K : Nat) (C : CallC) (g : SV) (H : Heap) : Rs :=
 o.box g H fun a f =>
 o.load 1 false a f fun h =>
 o.call (C 21 [h] f) fun i j =>
 o.call (C 20 [i] j) fun k b =>
 o.u_not k fun l =>
 (o.cond l
 (o.build [.slice nilSl] [] [] fun m =>
 o.bstore 0 1 (.box [.slice nilSl]) m fun n =>
 o.resc 1 true (.box n) fun p =>
 some (.tuple [p, (.int .i64 5)], b))
 (o.load 1 false a b fun q =>
 o.len q fun r =>
 o.eql r (.int .i64 0) fun s =>
 (o.cond s
 (o.build [.slice nilSl] [] [] fun t =>
 o.bstore 0 1 (.box [.slice nilSl]) t fun u =>
 o.resc 1 true (.box u) fun v =>
 some (.tuple [v, (.int .i64 0)], b))
 (o.alloc [.int .i64 0] b fun c w =>
 o.store 1 c (.int .i64 0) w fun d =>
 o.load 1 false a d fun x =>
 o.len x fun y =>
 o.load 1 false a d fun z =>
 o.idx 1 z (.int .i64 0) fun A =>
 o.load 1 false A d fun B =>
 o.len B fun D =>
 o.mkfn 23 0 [a, c] fun E =>
 o.call (C 22 [y, D, E] d) fun F e =>
 o.bstore 0 1 (.box [.slice nilSl]) F fun G =>
 o.load 1 false c e fun I =>
 o.neq I (.int .i64 0) fun J =>
 (o.cond J
 (o.build [.slice nilSl] [] [] fun L =>
 o.load 1 false c e fun M =>
 o.bstore 0 1 (.box [.slice nilSl]) L fun N =>
 o.resc 1 true (.box N) fun P =>
 o.rest M fun Q =>
 some (.tuple [P, Q], e))
 (o.lload 0 1 true (.box G) fun S =>
 o.bstore 0 1 (.box [.slice nilSl]) S fun T =>
 o.resc 1 true (.box T) fun U =>
 some (.tuple [U, (.int .i64 0)], e)))))))
def f7_j3 (o : Ops) (K : Nat) (C : CallC) (b : SV -> SV -> Heap -> Rs) (c d e : SV) (a : Heap) : Rs :=
 (o.cond e
 (some (.tuple [(.slice nilSl), (.int .i64 5)], a))
 (o.add d (.int .i64 1) fun f =>
 b c f a))
def f7_l9 (o : Ops) (K : Nat) (C : CallC) (j : SV -> SV -> SV -> Heap -> Rs) : SV -> SV -> SV -> SV -> SV -> Heap -> (SV -> SV -> SV -> SV -> SV -> Heap -> Rs) -> Rs := fun b e c f d a k =>
 o.idx 1 b c fun l =>
 o.load 1 false l a fun m =>
 o.len m fun n =>
 o.lss d n fun p =>
 (o.cond p
 (o.idx 1 b c fun q =>
 o.load 1 false q a fun r =>
 o.idx 1 r d fun s =>
 o.load 1 false s a fun t =>
 o.call (C 26 [t] a) fun g h =>
 o.ext 0 g fun u =>
 o.ext 1 g fun i =>
 o.bstore 0 2 (.box [.bool false, .slice nilSl]) u fun v =>
 o.neq i (.int .i64 0) fun w =>
 (o.cond w
 (o.rest i fun x =>
 some (.tuple [(.slice nilSl), x], h))
 (o.lload 0 2 true (.box v) fun y =>
 o.hbuild 2 [.bool false, .slice nilSl] [(0, 2)] [y] h fun z A =>
 o.append 2 32 f z A fun B D =>
 o.add d (.int .i64 1) fun E =>
 k b e c B E D)))
 (o.hbuild 1 [.slice nilSl] [(0, 1)] [f] a fun F G =>
 o.append 1 24 e F G fun I J =>
 o.add c (.int .i64 1) fun L =>
 j b I L J))
def f7_l7 (o : Ops) (K : Nat) (C : CallC) : SV -> SV -> SV -> Heap -> (SV -> SV -> SV -> Heap -> Rs) -> Rs := fun a b c d e =>
 o.len a fun f =>
 o.lss c f fun g =>
 (o.cond g
 ((o.loop5 (f7_l9 o K C e) K a b c (.slice nilSl) (.int .i64 0) d))
 (o.rest b fun h =>
 some (.tuple [h, (.int .i64 0)], d)))
def f7_l1 (o : Ops) (K : Nat) (C : CallC) : SV -> SV -> Heap -> (SV -> SV -> Heap -> Rs) -> Rs := fun a b d e =>
 o.len a fun f =>
 o.lss b f fun g =>
 (o.cond g
 (o.len a fun h =>
 o.idx 1 a b fun i =>
 o.load 1 false i d fun j =>
 o.len j fun k =>
 o.call (C 25 [h, k] d) fun l c =>
 o.u_not l fun m =>
 (o.guard m
 ((f7_j3 o K C e a b (.bool true) c))
 (o.idx 1 a b fun n =>
 o.load 1 false n c fun p =>
 o.len p fun q =>
 o.idx 1 a (.int .i64 0) fun r =>
 o.load 1 false r c fun s =>
 o.len s fun t =>
 o.neq q t fun u =>
 (f7_j3 o K C e a b u c))
 (none)))
 ((o.loop3 (f7_l7 o K C) K a (.slice nilSl) (.int .i64 0) d)))
def f7 (o : Ops) (K : Nat) (C : CallC) (a : SV) (H : Heap) : Rs :=
 (o.loop2 (f7_l1 o K C) K a (.int .i64 0) H)
def f8_l1 (o : Ops) (K : Nat) (C : CallC) : SV -> SV -> SV -> SV -> Heap -> (SV -> SV -> SV -> SV -> Heap -> Rs) -> Rs := fun b e f a c g =>
 o.lss a f fun h =>
 (o.cond h
 (o.idx 1 b a fun i =>
 o.load 1 false i c fun j =>
 o.append 1 8 (.slice nilSl) j c fun k l =>
 o.hbuild 1 [.int .i64 0] [(0, 1)] [(.int .i64 78)] l fun m n =>
 o.append 1 8 k m n fun p d =>
 o.idx 1 b a fun q =>
 o.load 1 false q d fun r =>
 o.len r fun s =>
 o.slice010 1 p s d fun t =>
 o.hbuild 1 [.slice nilSl] [(0, 1)] [t] d fun u v =>
 o.append 1 24 e u v fun w x =>
 o.add a (.int .i64 1) fun y =>
 g b w f y x)
 (o.rest e fun z =>
 some (z, c)))
def f8 (o : Ops) (K : Nat) (C : CallC) (a : SV) (H : Heap) : Rs :=
 o.len a fun b =>
 (o.loop4 (f8_l1 o K C) K a (.slice nilSl) b (.int .i64 0) H)
def f9_j7 (o : Ops) (K : Nat) (C : CallC) (b c : SV) (a : Heap) : Rs :=
 (o.cond c
 (some (.tuple [(.slice nilSl), (.int .i64 3)], a))
 (o.rest b fun d =>
 some (.tuple [d, (.int .i64 0)], a)))
def f9_j2 (o : Ops) (K : Nat) (C : CallC) (p b q : SV) (d : Heap) : Rs :=
 (o.cond q
 (some (.tuple [(.slice nilSl), (.int .i64 5)], d))
 (o.lload 0 1 true b fun r =>
 o.call (C 28 [r] d) fun e f =>
 o.ext 0 e fun s =>
 o.ext 1 e fun g =>
 o.bstore 0 2 (.box [.bool false, .slice nilSl]) s fun t =>
 o.neq g (.int .i64 0) fun u =>
 (o.cond u
 (o.rest g fun v =>
 some (.tuple [(.slice nilSl), v], f))
 (o.lload 0 2 true (.box t) fun w =>
 o.call (C 29 [w] f) fun x h =>
 o.eql x (.int .i64 0) fun y =>
 (o.cond y
 (some (.tuple [(.slice nilSl), (.int .i64 50)], h))
 (o.call (C 17 [p] h) fun i z =>
 o.ext 0 i fun A =>
 o.ext 1 i fun ab =>
 o.bstore 0 1 (.box [.slice nilSl]) A fun B =>
 o.lload 0 1 true b fun D =>
 o.lload 0 1 true (.box B) fun E =>
 o.call (C 30 [D, E] z) fun j k =>
 o.ext 0 j fun F =>
 o.ext 1 j fun G =>
 o.bstore 0 1 (.box [.slice nilSl]) F fun l =>
 o.neq G (.int .i64 0) fun I =>
 (o.cond I
 (some (.tuple [(.slice nilSl), (.int .i64 3)], k))
 (o.lload 0 1 true (.box l) fun J =>
 o.lload 0 1 true b fun L =>
 o.call (C 31 [L] k) fun M N =>
 o.call (C 30 [J, M] N) fun m P =>
 o.ext 0 m fun Q =>
 o.ext 1 m fun S =>
 o.bstore 0 1 (.box l) Q fun T =>
 o.lload 0 1 true (.box T) fun U =>
 o.call (C 32 [U] P) fun n c =>
 o.ext 0 n fun a =>
 o.ext 1 n fun V =>
 o.neq S (.int .i64 0) fun W =>
 (o.guard W
 ((f9_j7 o K C a (.bool true) c))
 (o.u_not V fun X =>
 (o.guard X
 ((f9_j7 o K C a (.bool true) c))
 (o.call (C 33 [a, (.fn 34 [] [])] c) fun Y Z =>
 o.u_not Y fun aa =>
 (f9_j7 o K C a aa Z))
 (none)))
 (none))))))))))
def f9 (o : Ops) (K : Nat) (C : CallC) (a h : SV) (H : Heap) : Rs :=
 o.bbox h fun b =>
 o.call (C 19 [a] H) fun c d =>
 o.neq c (.int .i64 0) fun i =>
 (o.cond i
 (o.rest c fun j =>
 some (.tuple [(.slice nilSl), j], d))
 (o.len a fun e =>
 o.lload 0 1 true (.box b) fun k =>
 o.call (C 27 [k] d) fun f g =>
 o.ext 0 f fun l =>
 o.ext 1 f fun m =>
 o.neq l e fun n =>
 (o.guard n
 ((f9_j2 o K C a (.box b) (.bool true) g))
 (o.neq m e fun p =>
 (f9_j2 o K C a (.box b) p g))
 (none))))
def f10_j12 (o : Ops) (K : Nat) (C : CallC) (b : SV -> SV -> SV -> Heap -> Rs) (c d e f : SV) (a : Heap) : Rs :=
 (o.cond f
 (some ((.int .i64 3), a))
 (o.add e (.int .i64 1) fun g =>
 b c d g a))
def f10_l10 (o : Ops) (K : Nat) (C : CallC) (f : SV -> SV -> Heap -> Rs) : SV -> SV -> SV -> Heap -> (SV -> SV -> SV -> Heap -> Rs) -> Rs := fun b c d a e =>
 o.len b fun g =>
 o.lss d g fun h =>
 (o.cond h
 (o.idx 1 b c fun i =>
 o.load 1 false i a fun j =>
 o.idx 1 j d fun k =>
 o.load 1 false k a fun l =>
 o.gtr l (.int .i64 16384) fun m =>
 (o.guard m
 ((f10_j12 o K C e b c d (.bool true) a))
 (o.idx 1 b c fun n =>
 o.load 1 false n a fun p =>
 o.idx 1 p d fun q =>
 o.load 1 false q a fun r =>
 o.lss r (.int .i64 (-16384)) fun s =>
 (f10_j12 o K C e b c d s a))
 (none)))
 (o.add c (.int .i64 1) fun t =>
 f b t a))
def f10_l20 (o : Ops) (K : Nat) (C : CallC) (e : SV -> SV -> Heap -> Rs) : SV -> SV -> SV -> Heap -> (SV -> SV -> SV -> Heap -> Rs) -> Rs := fun c b d a f =>
 o.lss d b fun g =>
 (o.cond g
 (o.idx 1 c b fun h =>
 o.load 1 false h a fun i =>
 o.idx 1 i d fun j =>
 o.load 1 false j a fun k =>
 o.idx 1 c d fun l =>
 o.load 1 false l a fun m =>
 o.idx 1 m b fun n =>
 o.load 1 false n a fun p =>
 o.neq k p fun q =>
 (o.cond q
 (some ((.int .i64 6), a))
 (o.add d (.int .i64 1) fun r =>
 f c b r a)))
 (o.add b (.int .i64 1) fun s =>
 e c s a))
def f10_j29 (o : Ops) (K : Nat) (C : CallC) (b : SV -> SV -> Heap -> Rs) (c d e : SV) (a : Heap) : Rs :=
 (o.cond e
 (some ((.int .i64 6), a))
 (o.add d (.int .i64 1) fun f =>
 b c f a))
def f10_l27 (o : Ops) (K : Nat) (C : CallC) : SV -> SV -> Heap -> (SV -> SV -> Heap -> Rs) -> Rs := fun a b d e =>
 o.len a fun g =>
 o.leq b g fun h =>
 (o.cond h
 (o.call (C 36 [a, b] d) fun i f =>
 o.bstore 0 2 (.box [.bool false, .slice nilSl]) i fun c =>
 o.lfld 0 (.box c) fun j =>
 o.lloadp 1 false (.box c) j fun k =>
 (o.guard k
 ((f10_j29 o K C e a b (.bool true) f))
 (o.lfld 1 (.box c) fun l =>
 o.lloadp 1 false (.box c) l fun m =>
 o.len m fun n =>
 o.eql n (.int .i64 0) fun p =>
 (f10_j29 o K C e a b p f))
 (none)))
 (some ((.int .i64 0), d)))
def f10_l18 (o : Ops) (K : Nat) (C : CallC) : SV -> SV -> Heap -> (SV -> SV -> Heap -> Rs) -> Rs := fun a b c d =>
 o.len a fun e =>
 o.lss b e fun f =>
 (o.cond f
 ((o.loop3 (f10_l20 o K C d) K a b (.int .i64 0) c))
 ((o.loop2 (f10_l27 o K C) K a (.int .i64 1) c)))
def f10_l8 (o : Ops) (K : Nat) (C : CallC) : SV -> SV -> Heap -> (SV -> SV -> Heap -> Rs) -> Rs := fun a b c d =>
 o.len a fun e =>
 o.lss b e fun f =>
 (o.cond f
 ((o.loop3 (f10_l10 o K C d) K a b (.int .i64 0) c))
 ((o.loop2 (f10_l18 o K C) K a (.int .i64 0) c)))
def f10_l3 (o : Ops) (K : Nat) (C : CallC) : SV -> SV -> Heap -> (SV -> SV -> Heap -> Rs) -> Rs := fun a c b d =>
 o.len a fun e =>
 o.lss c e fun f =>
 (o.cond f
 (o.idx 1 a c fun g =>
 o.load 1 false g b fun h =>
 o.len h fun i =>
 o.len a fun j =>
 o.neq i j fun k =>
 (o.cond k
 (some ((.int .i64 5), b))
 (o.add c (.int .i64 1) fun l =>
 d a l b)))
 ((o.loop2 (f10_l8 o K C) K a (.int .i64 0) b)))
def f10_j1 (o : Ops) (K : Nat) (C : CallC) (b c : SV) (a : Heap) : Rs :=
 (o.cond c
 (some ((.int .i64 5), a))
 ((o.loop2 (f10_l3 o K C) K b (.int .i64 0) a)))
def f10 (o : Ops) (K : Nat) (C : CallC) (a : SV) (H : Heap) : Rs :=
 o.len a fun b =>
 o.lss b (.int .i64 1) fun c =>
 (o.guard c
 ((f10_j1 o K C a (.bool true) H))
 (o.len a fun d =>
 o.gtr d (.int .i64 8) fun e =>
 (f10_j1 o K C a e H))
 (none))
def f11_j1 (o : Ops) (K : Nat) (C : CallC) (h a i : SV) (b : Heap) : Rs :=
 (o.cond i
 (some (.tuple [(.slice nilSl), (.int .i64 5)], b))
 (o.call (C 38 [a] b) fun j c =>
 (o.cond j
 (some (.tuple [(.slice nilSl), (.int .i64 3)], c))
 (o.call (C 39 [a] c) fun k d =>
 o.bstore 0 2 (.box [.bool false, .slice nilSl]) k fun e =>
 o.lfld 1 (.box e) fun l =>
 o.lloadp 1 false (.box e) l fun m =>
 o.len m fun n =>
 o.eql n (.int .i64 0) fun p =>
 (o.cond p
 (some (.tuple [(.slice nilSl), (.int .i64 50)], d))
 (o.call (C 41 [h, a] d) fun q r =>
 o.call (C 40 [q, (.int .i64 16384)] r) fun f g =>
 o.ext 0 f fun s =>
 o.ext 1 f fun t =>
 o.u_not t fun u =>
 (o.cond u
 (some (.tuple [(.slice nilSl), (.int .i64 3)], g))
 (o.rest s fun v =>
 some (.tuple [v, (.int .i64 0)], g)))))))))
def f11 (o : Ops) (K : Nat) (C : CallC) (a b : SV) (H : Heap) : Rs :=
 o.len b fun c =>
 o.len a fun d =>
 o.neq c d fun e =>
 (o.guard e
 ((f11_j1 o K C a b (.bool true) H))
 (o.call (C 37 [b] H) fun f g =>
 o.len a fun h =>
 o.neq f h fun i =>
 (f11_j1 o K C a b i g))
 (none))
def f12_l5 (o : Ops) (K : Nat) (C : CallC) (f : SV -> SV -> SV -> Heap -> Rs) : SV -> SV -> SV -> SV -> Heap -> (SV -> SV -> SV -> SV -> Heap -> Rs) -> Rs := fun c e b d a g =>
 o.idx 1 c b fun h =>
 o.load 1 false h a fun i =>
 o.len i fun j =>
 o.lss d j fun k =>
 (o.cond k
 (o.idx 1 c b fun l =>
 o.load 1 false l a fun m =>
 o.idx 1 m d fun n =>
 o.load 1 false n a fun p =>
 o.idx 1 e b fun q =>
 o.load 1 false q a fun r =>
 o.idx 1 r d fun s =>
 o.load 1 false s a fun t =>
 o.neq p t fun u =>
 (o.cond u
 (some ((.bool false), a))
 (o.add d (.int .i64 1) fun v =>
 g c e b v a)))
 (o.add b (.int .i64 1) fun w =>
 f c e w a))
def f12_l2 (o : Ops) (K : Nat) (C : CallC) : SV -> SV -> SV -> Heap -> (SV -> SV -> SV -> Heap -> Rs) -> Rs := fun c d b a e =>
 o.len c fun f =>
 o.lss b f fun g =>
 (o.cond g
 (o.idx 1 c b fun h =>
 o.load 1 false h a fun i =>
 o.len i fun j =>
 o.idx 1 d b fun k =>
 o.load 1 false k a fun l =>
 o.len l fun m =>
 o.neq j m fun n =>
 (o.cond n
 (some ((.bool false), a))
 ((o.loop4 (f12_l5 o K C e) K c d b (.int .i64 0) a))))
 (some ((.bool true), a)))
def f12 (o : Ops) (K : Nat) (C : CallC) (a b : SV) (H : Heap) : Rs :=
 o.len a fun c =>
 o.len b fun d =>
 o.neq c d fun e =>
 (o.cond e
 (some ((.bool false), H))
 ((o.loop3 (f12_l2 o K C) K a b (.int .i64 0) H)))
def f13_l2 (o : Ops) (K : Nat) (C : CallC) : SV -> SV -> SV -> Heap -> (SV -> SV -> SV -> Heap -> Rs) -> Rs := fun c e b a f =>
 o.lss b e fun g =>
 (o.cond g
 (o.idx 1 c b fun h =>
 o.load 1 false h a fun i =>
 o.len i fun d =>
 o.idx 1 c b fun j =>
 o.load 1 false j a fun k =>
 o.add d (.int .i64 1) fun l =>
 o.add d (.int .i64 1) fun m =>
 o.slice011 1 k l m a fun n =>
 o.idx 1 n d fun p =>
 o.load 1 false p a fun q =>
 o.neq q (.int .i64 78) fun r =>
 (o.cond r
 (some ((.bool false), a))
 (o.add b (.int .i64 1) fun s =>
 f c e s a)))
 (some ((.bool true), a)))
def f13 (o : Ops) (K : Nat) (C : CallC) (c a : SV) (H : Heap) : Rs :=
 o.call (C 12 [c, a] H) fun d b =>
 o.u_not d fun e =>
 (o.cond e
 (some ((.bool false), b))
 (o.len a fun f =>
 (o.loop3 (f13_l2 o K C) K a f (.int .i64 0) b)))
def f14_l3 (o : Ops) (K : Nat) (C : CallC) (h : SV -> SV -> SV -> Heap -> Rs) : SV -> SV -> SV -> SV -> SV -> SV -> Heap -> (SV -> SV -> SV -> SV -> SV -> SV -> Heap -> Rs) -> Rs := fun a d e f g b c i =>
 o.lss b g fun j =>
 (o.cond j
 (o.idx 1 a d fun k =>
 o.load 1 false k c fun l =>
 o.idx 1 l b fun m =>
 o.store 1 m (.int .i64 (-77)) c fun n =>
 o.add b (.int .i64 1) fun p =>
 i a d e f g p n)
 (o.add f (.int .i64 1) fun q =>
 h a e q c))
def f14_l1 (o : Ops) (K : Nat) (C : CallC) : SV -> SV -> SV -> Heap -> (SV -> SV -> SV -> Heap -> Rs) -> Rs := fun c d a b e =>
 o.lss a d fun f =>
 (o.cond f
 (o.idx 1 c a fun g =>
 o.load 1 false g b fun h =>
 o.len h fun i =>
 (o.loop6 (f14_l3 o K C e) K c a d a i (.int .i64 0) b))
 (some (.tuple [], b)))
def f14 (o : Ops) (K : Nat) (C : CallC) (a : SV) (H : Heap) : Rs :=
 o.len a fun b =>
 (o.loop3 (f14_l1 o K C) K a b (.int .i64 0) H)
def f15 (o : Ops) (K : Nat) (C : CallC) (a : SV) (H : Heap) : Rs :=
 o.call (C 19 [a] H) fun b c =>
 o.neq b (.int .i64 0) fun f =>
 (o.cond f
 (o.build [.slice nilSl] [] [] fun g =>
 o.bstore 0 1 (.box [.slice nilSl]) g fun h =>
 o.resc 1 true (.box h) fun i =>
 o.rest b fun j =>
 some (.tuple [i, j], c))
 (o.call (C 17 [a] c) fun d k =>
 o.ext 0 d fun l =>
 o.ext 1 d fun x =>
 o.bstore 0 1 (.box [.slice nilSl]) l fun m =>
 o.lload 0 1 true (.box m) fun n =>
 o.call (C 28 [n] k) fun e p =>
 o.ext 0 e fun q =>
 o.ext 1 e fun y =>
 o.bstore 0 2 (.box [.bool false, .slice nilSl]) q fun r =>
 o.lload 0 2 true (.box r) fun s =>
 o.call (C 42 [s] p) fun t u =>
 o.bstore 0 1 (.box [.slice nilSl]) t fun v =>
 o.resc 1 true (.box v) fun w =>
 some (.tuple [w, (.int .i64 0)], u)))
def f16 (o : Ops) (K : Nat) (C : CallC) (c a : SV) (H : Heap) : Rs :=
 o.call (C 43 [c, a, a] H) fun b d =>
 o.ext 0 b fun e =>
 o.ext 1 b fun f =>
 o.rest e fun g =>
 o.rest f fun h =>
 some (.tuple [g, h], d)
def f17 (o : Ops) (K : Nat) (C : CallC) (d : SV) (H : Heap) : Rs :=
 o.box d H fun b c =>
 o.load 1 false b c fun e =>
 o.call (C 44 [e] c) fun f g =>
 o.call (C 20 [f] g) fun h a =>
 o.u_not h fun i =>
 (o.cond i
 (o.build [.slice nilSl] [] [] fun j =>
 o.bstore 0 1 (.box [.slice nilSl]) j fun k =>
 o.resc 1 true (.box k) fun l =>
 some (.tuple [l, (.int .i64 5)], a))
 (o.load 1 false b a fun m =>
 o.len m fun n =>
 o.eql n (.int .i64 0) fun p =>
 (o.cond p
 (o.build [.slice nilSl] [] [] fun q =>
 o.bstore 0 1 (.box [.slice nilSl]) q fun r =>
 o.resc 1 true (.box r) fun s =>
 some (.tuple [s, (.int .i64 0)], a))
 (o.load 1 false b a fun t =>
 o.len t fun u =>
 o.load 1 false b a fun v =>
 o.idx 1 v (.int .i64 0) fun w =>
 o.load 1 false w a fun x =>
 o.len x fun y =>
 o.mkfn 45 0 [b] fun z =>
 o.call (C 22 [u, y, z] a) fun A B =>
 o.bstore 0 1 (.box [.slice nilSl]) A fun D =>
 o.resc 1 true (.box D) fun E =>
 some (.tuple [E, (.int .i64 0)], B)))))
def f18_j5 (o : Ops) (K : Nat) (C : CallC) (e : SV -> SV -> Heap -> Rs) (f : SV -> SV -> SV -> SV -> Heap -> Rs) (a b c g h : SV) (d : Heap) : Rs :=
 (o.cond h
 (o.rem c (.int .u32 10) fun i =>
 o.add (.int .u32 48) i fun j =>
 o.conv .u8 j fun k =>
 o.hbuild 1 [.int .u8 0] [(0, 1)] [k] d fun l m =>
 o.append 1 1 b l m fun n p =>
 o.quo c (.int .u32 10) fun q =>
 o.add g (.int .i64 1) fun r =>
 f a n q r p)
 (e a b d))
def f18_l4 (o : Ops) (K : Nat) (C : CallC) (d : SV -> SV -> Heap -> Rs) : SV -> SV -> SV -> SV -> Heap -> (SV -> SV -> SV -> SV -> Heap -> Rs) -> Rs := fun a e b c f g =>
 o.lss c (.int .i64 9) fun h =>
 (o.guard h
 (o.len a fun i =>
 o.gtr i (.int .i64 0) fun j =>
 (o.guard j
 ((f18_j5 o K C d g a e b c (.bool true) f))
 (o.gtr b (.int .u32 0) fun k =>
 (f18_j5 o K C d g a e b c k f))
 (none)))
 ((f18_j5 o K C d g a e b c (.bool false) f))
 (none))
def f18_l11 (o : Ops) (K : Nat) (C : CallC) : SV -> SV -> SV -> Heap -> (SV -> SV -> SV -> Heap -> Rs) -> Rs := fun a c d b e =>
 o.lss c d fun f =>
 (o.cond f
 (o.idx 1 a d fun g =>
 o.load 1 false g b fun h =>
 o.idx 1 a c fun i =>
 o.load 1 false i b fun j =>
 o.idx 1 a c fun k =>
 o.store 1 k h b fun l =>
 o.idx 1 a d fun m =>
 o.store 1 m j l fun n =>
 o.add c (.int .i64 1) fun p =>
 o.sub d (.int .i64 1) fun q =>
 e a p q n)
 (o.str a b fun r =>
 o.rest r fun s =>
 some (s, b)))
def f18_l2 (o : Ops) (K : Nat) (C : CallC) : SV -> SV -> Heap -> (SV -> SV -> Heap -> Rs) -> Rs := fun a b c d =>
 o.len a fun e =>
 o.gtr e (.int .i64 0) fun f =>
 (o.cond f
 (o.call (C 47 [a, (.int .u32 1000000000)] c) fun g h =>
 o.call (C 48 [a] h) fun i j =>
 o.fieldv 0 1 false i fun k =>
 (o.loop4 (f18_l4 o K C d) K k b g (.int .i64 0) j))
 (o.len b fun l =>
 o.sub l (.int .i64 1) fun m =>
 (o.loop3 (f18_l11 o K C) K b (.int .i64 0) m c)))
def f18 (o : Ops) (K : Nat) (C : CallC) (b : SV) (H : Heap) : Rs :=
 o.bbox b fun a =>
 o.lfld 0 (.box a) fun c =>
 o.lloadp 1 false (.box a) c fun d =>
 o.len d fun e =>
 o.eql e (.int .i64 0) fun f =>
 (o.cond f
 (some ((.str [48]), H))
 (o.lfld 0 (.box a) fun g =>
 o.lloadp 1 false (.box a) g fun h =>
 o.append 1 4 (.slice nilSl) h H fun i j =>
 (o.loop2 (f18_l2 o K C) K i (.slice nilSl) j)))
def f19_j9 (o : Ops) (K : Nat) (C : CallC) (b : SV) (a : Heap) : Rs :=
 (o.cond b
 (some ((.int .i64 6), a))
 (some ((.int .i64 0), a)))
def f19_l3 (o : Ops) (K : Nat) (C : CallC) : SV -> SV -> SV -> SV -> Heap -> (SV -> SV -> SV -> SV -> Heap -> Rs) -> Rs := fun a f g c b h =>
 o.lss c g fun i =>
 (o.cond i
 (o.load 1 false a b fun j =>
 o.idx 1 j c fun k =>
 o.load 1 false k b fun l =>
 o.len l fun m =>
 o.neq m f fun n =>
 (o.cond n
 (some ((.int .i64 5), b))
 (o.add c (.int .i64 1) fun p =>
 h a f g p b)))
 (o.load 1 false a b fun q =>
 o.call (C 33 [q, (.fn 49 [] [])] b) fun r d =>
 o.u_not r fun s =>
 (o.cond s
 (some ((.int .i64 3), d))
 (o.load 1 false a d fun t =>
 o.mkfn 50 0 [a] fun u =>
 o.call (C 33 [t, u] d) fun v e =>
 o.u_not v fun w =>
 (o.guard w
 ((f19_j9 o K C (.bool true) e))
 (o.load 1 false a e fun x =>
 o.call (C 51 [x] e) fun y z =>
 o.u_not y fun A =>
 (f19_j9 o K C A z))
 (none))))))
def f19_j1 (o : Ops) (K : Nat) (C : CallC) (b c d : SV) (a : Heap) : Rs :=
 (o.cond d
 (some ((.int .i64 5), a))
 (o.load 1 false b a fun e =>
 o.len e fun f =>
 (o.loop4 (f19_l3 o K C) K b c f (.int .i64 0) a)))
def f19 (o : Ops) (K : Nat) (C : CallC) (d : SV) (H : Heap) : Rs :=
 o.box d H fun b c =>
 o.load 1 false b c fun e =>
 o.len e fun a =>
 o.lss a (.int .i64 1) fun f =>
 (o.guard f
 ((f19_j1 o K C b a (.bool true) c))
 (o.gtr a (.int .i64 8) fun g =>
 (f19_j1 o K C b a g c))
 (none))
def f20_j3 (o : Ops) (K : Nat) (C : CallC) (b : SV -> SV -> SV -> SV -> Heap -> Rs) (c d e f g : SV) (a : Heap) : Rs :=
 (o.cond g
 (some ((.bool false), a))
 (o.add f (.int .i64 1) fun h =>
 b c d e h a))
def f20_l1 (o : Ops) (K : Nat) (C : CallC) : SV -> SV -> SV -> SV -> Heap -> (SV -> SV -> SV -> SV -> Heap -> Rs) -> Rs := fun b d e c a f =>
 o.lss c e fun h =>
 (o.cond h
 (o.idx 1 d c fun i =>
 o.load 1 false i a fun g =>
 o.len b fun j =>
 o.gtr j (.int .i64 16) fun k =>
 (o.guard k
 ((f20_j3 o K C f b d e c (.bool true) a))
 (o.lss g (.int .i64 1) fun l =>
 (o.guard l
 ((f20_j3 o K C f b d e c (.bool true) a))
 (o.gtr g (.int .i64 16) fun m =>
 (o.guard m
 ((f20_j3 o K C f b d e c (.bool true) a))
 (o.idx 1 b (.int .i64 0) fun n =>
 o.load 1 false n a fun p =>
 o.neq g p fun q =>
 (f20_j3 o K C f b d e c q a))
 (none)))
 (none)))
 (none)))
 (some ((.bool true), a)))
def f20 (o : Ops) (K : Nat) (C : CallC) (a : SV) (H : Heap) : Rs :=
 o.len a fun b =>
 (o.loop4 (f20_l1 o K C) K a a b (.int .i64 0) H)
def f21_l1 (o : Ops) (K : Nat) (C : CallC) : SV -> SV -> SV -> SV -> Heap -> (SV -> SV -> SV -> SV -> Heap -> Rs) -> Rs := fun c d e a b f =>
 o.lss a e fun g =>
 (o.cond g
 (o.idx 1 c a fun h =>
 o.load 1 false h b fun i =>
 o.len i fun j =>
 o.hbuild 1 [.int .i64 0] [(0, 1)] [j] b fun k l =>
 o.append 1 8 d k l fun m n =>
 o.add a (.int .i64 1) fun p =>
 f c m e p n)
 (o.rest d fun q =>
 some (q, b)))
def f21 (o : Ops) (K : Nat) (C : CallC) (a : SV) (H : Heap) : Rs :=
 o.len a fun b =>
 (o.loop4 (f21_l1 o K C) K a (.slice nilSl) b (.int .i64 0) H)
def f22_l3 (o : Ops) (K : Nat) (C : CallC) (l : SV -> SV -> SV -> SV -> SV -> SV -> Heap -> Rs) : SV -> SV -> SV -> SV -> SV -> SV -> SV -> SV -> SV -> SV -> Heap -> (SV -> SV -> SV -> SV -> SV -> SV -> SV -> SV -> SV -> SV -> Heap -> Rs) -> Rs := fun d b e f g c h i j a k m =>
 o.lss a j fun n =>
 (o.cond n
 (o.callv C [b, g, a] k fun p q =>
 o.idx 2 c a fun r =>
 o.store 2 r p q fun s =>
 o.add a (.int .i64 1) fun t =>
 m d b e f g c h i j t s)
 (o.hbuild 1 [.slice nilSl] [(0, 1)] [c] k fun u v =>
 o.append 1 24 f u v fun w x =>
 o.add i (.int .i64 1) fun y =>
 l d b e w h y x))
def f22_l1 (o : Ops) (K : Nat) (C : CallC) : SV -> SV -> SV -> SV -> SV -> SV -> Heap -> (SV -> SV -> SV -> SV -> SV -> SV -> Heap -> Rs) -> Rs := fun a h c d e b f i =>
 o.lss b e fun j =>
 (o.cond j
 (o.make 2 32 [.bool false, .slice nilSl] a a f fun g k =>
 o.len g fun l =>
 (o.loop10 (f22_l3 o K C i) K a h c d b g e b l (.int .i64 0) k))
 (o.build [.slice nilSl] [(0, 1)] [d] fun m =>
 o.bstore 0 1 c m fun n =>
 o.resc 1 true (.box n) fun p =>
 some (p, f)))
def f22 (o : Ops) (K : Nat) (C : CallC) (a b c : SV) (H : Heap) : Rs :=
 (o.loop6 (f22_l1 o K C) K b c (.box [.slice nilSl]) (.slice nilSl) a (.int .i64 0) H)
def f23_j1 (o : Ops) (K : Nat) (C : CallC) (a b : SV) (c : Heap) : Rs :=
 o.lload 0 2 true b fun d =>
 o.bstore 0 2 a d fun e =>
 o.resc 2 true (.box e) fun f =>
 some (f, c)
def f23 (o : Ops) (K : Nat) (C : CallC) (e f g b : SV) (H : Heap) : Rs :=
 o.load 1 false g H fun h =>
 o.idx 1 h e fun i =>
 o.load 1 false i H fun j =>
 o.idx 1 j f fun k =>
 o.load 1 false k H fun l =>
 o.call (C 24 [l] H) fun c a =>
 o.ext 0 c fun m =>
 o.ext 1 c fun n =>
 o.bstore 0 2 (.box [.bool false, .slice nilSl]) m fun d =>
 o.load 1 false b a fun p =>
 o.eql p (.int .i64 0) fun q =>
 (o.cond q
 (o.store 1 b n a fun r =>
 (f23_j1 o K C (.box [.bool false, .slice nilSl]) (.box d) r))
 ((f23_j1 o K C (.box [.bool false, .slice nilSl]) (.box d) a)))
def f24_j2 (o : Ops) (K : Nat) (C : CallC) (f a g h : SV) (b : Heap) : Rs :=
 o.eql f (.str [45, 48]) fun i =>
 (o.cond i
 (o.build [.bool false, .slice nilSl] [] [] fun j =>
 o.bstore 0 2 a j fun k =>
 o.resc 2 true (.box k) fun l =>
 some (.tuple [l, (.int .i64 12)], b))
 (o.call (C 52 [g] b) fun c d =>
 o.ext 0 c fun m =>
 o.ext 1 c fun e =>
 o.bstore 0 1 (.box [.slice nilSl]) m fun n =>
 o.neq e (.int .i64 0) fun p =>
 (o.cond p
 (o.build [.bool false, .slice nilSl] [] [] fun q =>
 o.bstore 0 2 a q fun r =>
 o.resc 2 true (.box r) fun s =>
 o.rest e fun t =>
 some (.tuple [s, t], d))
 (o.lload 0 1 true (.box n) fun u =>
 o.call (C 53 [h, u] d) fun v w =>
 o.bstore 0 2 a v fun x =>
 o.resc 2 true (.box x) fun y =>
 some (.tuple [y, (.int .i64 0)], w)))))
def f24_j1 (o : Ops) (K : Nat) (C : CallC) (a c e b : SV) (d : Heap) : Rs :=
 (o.cond b
 (o.strcut10 a (.int .i64 1) fun f =>
 (f24_j2 o K C a c f b d))
 ((f24_j2 o K C a c e b d)))
def f24 (o : Ops) (K : Nat) (C : CallC) (a : SV) (H : Heap) : Rs :=
 o.slen a fun b =>
 o.gtr b (.int .i64 0) fun c =>
 (o.guard c
 (o.stridx a (.int .i64 0) fun d =>
 o.eql d (.int .u8 45) fun e =>
 (f24_j1 o K C a (.box [.bool false, .slice nilSl]) a e H))
 ((f24_j1 o K C a (.box [.bool false, .slice nilSl]) a (.bool false) H))
 (none))
def f25_j1 (o : Ops) (K : Nat) (C : CallC) (a : SV) (b : Heap) : Rs :=
 o.rest a fun c =>
 some (c, b)
def f25 (o : Ops) (K : Nat) (C : CallC) (a b : SV) (H : Heap) : Rs :=
 o.eql a (.int .i64 0) fun c =>
 (o.guard c
 ((f25_j1 o K C (.bool true) H))
 (o.leq a (.int .i64 16) fun d =>
 (o.guard d
 (o.geq b (.int .i64 1) fun e =>
 (o.guard e
 (o.leq b (.int .i64 16) fun f =>
 (f25_j1 o K C f H))
 ((f25_j1 o K C (.bool false) H))
 (none)))
 ((f25_j1 o K C (.bool false) H))
 (none)))
 (none))
def f26_j3 (o : Ops) (K : Nat) (C : CallC) (a e f g : SV) (b : Heap) : Rs :=
 (o.cond g
 (o.build [.bool false, .slice nilSl] [] [] fun h =>
 o.bstore 0 2 a h fun i =>
 o.resc 2 true (.box i) fun j =>
 some (.tuple [j, (.int .i64 12)], b))
 (o.call (C 55 [f] b) fun c d =>
 o.ext 0 c fun k =>
 o.ext 1 c fun l =>
 o.u_not l fun m =>
 (o.cond m
 (o.build [.bool false, .slice nilSl] [] [] fun n =>
 o.bstore 0 2 a n fun p =>
 o.resc 2 true (.box p) fun q =>
 some (.tuple [q, (.int .i64 3)], d))
 (o.build [.bool false, .slice nilSl] [(0, 1), (1, 1)] [e, k] fun r =>
 o.bstore 0 2 a r fun s =>
 o.resc 2 true (.box s) fun t =>
 some (.tuple [t, (.int .i64 0)], d)))))
def f26_j2 (o : Ops) (K : Nat) (C : CallC) (c b a : SV) (e : Heap) : Rs :=
 o.call (C 54 [a] e) fun f d =>
 o.u_not f fun g =>
 (o.guard g
 ((f26_j3 o K C c b a (.bool true) d))
 ((o.guard b
 (o.eql a (.str [48]) fun h =>
 (f26_j3 o K C c b a h d))
 ((f26_j3 o K C c b a (.bool false) d))
 (none)))
 (none))
def f26_j1 (o : Ops) (K : Nat) (C : CallC) (b c a : SV) (d : Heap) : Rs :=
 (o.cond a
 (o.strcut10 b (.int .i64 1) fun e =>
 (f26_j2 o K C c a e d))
 ((f26_j2 o K C c a b d)))
def f26 (o : Ops) (K : Nat) (C : CallC) (a : SV) (H : Heap) : Rs :=
 o.slen a fun b =>
 o.gtr b (.int .i64 0) fun c =>
 (o.guard c
 (o.stridx a (.int .i64 0) fun d =>
 o.eql d (.int .u8 45) fun e =>
 (f26_j1 o K C a (.box [.bool false, .slice nilSl]) e H))
 ((f26_j1 o K C a (.box [.bool false, .slice nilSl]) (.bool false) H))
 (none))
def f27 (o : Ops) (K : Nat) (C : CallC) (b : SV) (H : Heap) : Rs :=
 o.bbox b fun a =>
 o.lfld 0 (.box a) fun c =>
 o.lloadp 1 false (.box a) c fun d =>
 o.len d fun e =>
 o.eql e (.int .i64 0) fun f =>
 (o.cond f
 (some (.tuple [(.int .i64 0), (.int .i64 0)], H))
 (o.lfld 0 (.box a) fun g =>
 o.lloadp 1 false (.box a) g fun h =>
 o.len h fun i =>
 o.lfld 0 (.box a) fun j =>
 o.lloadp 1 false (.box a) j fun k =>
 o.idx 1 k (.int .i64 0) fun l =>
 o.load 1 false l H fun m =>
 o.len m fun n =>
 o.rest i fun p =>
 o.rest n fun q =>
 some (.tuple [p, q], H)))
def f28 (o : Ops) (K : Nat) (C : CallC) (e : SV) (H : Heap) : Rs :=
 o.bbox e fun a =>
 o.lload 0 1 true (.box a) fun f =>
 o.call (C 56 [f] H) fun b c =>
 o.neq b (.int .i64 0) fun g =>
 (o.cond g
 (o.build [.bool false, .slice nilSl] [] [] fun h =>
 o.bstore 0 2 (.box [.bool false, .slice nilSl]) h fun i =>
 o.resc 2 true (.box i) fun j =>
 o.rest b fun k =>
 some (.tuple [j, k], c))
 (o.lload 0 1 true (.box a) fun l =>
 o.call (C 57 [l] c) fun d m =>
 o.ext 0 d fun t =>
 o.ext 1 d fun n =>
 o.bstore 0 2 (.box [.bool false, .slice nilSl]) n fun p =>
 o.lload 0 2 true (.box p) fun q =>
 o.bstore 0 2 (.box [.bool false, .slice nilSl]) q fun r =>
 o.resc 2 true (.box r) fun s =>
 some (.tuple [s, (.int .i64 0)], m)))
def f29 (o : Ops) (K : Nat) (C : CallC) (c : SV) (H : Heap) : Rs :=
 o.bbox c fun a =>
 o.lfld 1 (.box a) fun d =>
 o.lloadp 1 true (.box a) d fun e =>
 o.call (C 58 [e] H) fun f b =>
 o.eql f (.int .i64 0) fun g =>
 (o.cond g
 (some ((.int .i64 0), b))
 (o.lfld 0 (.box a) fun h =>
 o.lloadp 1 false (.box a) h fun i =>
 (o.cond i
 (some ((.int .i64 (-1)), b))
 (some ((.int .i64 1), b)))))
def f30 (o : Ops) (K : Nat) (C : CallC) (j k : SV) (H : Heap) : Rs :=
 o.box j H fun c l =>
 o.box k l fun d e =>
 o.load 1 true c e fun m =>
 o.call (C 27 [m] e) fun f n =>
 o.ext 0 f fun p =>
 o.ext 1 f fun q =>
 o.alloc [.int .i64 0] n fun a r =>
 o.store 1 a q r fun g =>
 o.load 1 true d g fun s =>
 o.call (C 27 [s] g) fun h b =>
 o.ext 0 h fun t =>
 o.ext 1 h fun u =>
 o.load 1 false a b fun v =>
 o.neq v t fun w =>
 (o.cond w
 (o.build [.slice nilSl] [] [] fun x =>
 o.bstore 0 1 (.box [.slice nilSl]) x fun y =>
 o.resc 1 true (.box y) fun z =>
 some (.tuple [z, (.int .i64 5)], b))
 (o.mkfn 60 0 [a, c, d] fun A =>
 o.call (C 59 [p, u, A] b) fun i B =>
 o.ext 0 i fun D =>
 o.ext 1 i fun E =>
 o.bstore 0 1 (.box [.slice nilSl]) D fun F =>
 o.resc 1 true (.box F) fun G =>
 o.rest E fun I =>
 some (.tuple [G, I], B)))
def f31 (o : Ops) (K : Nat) (C : CallC) (d : SV) (H : Heap) : Rs :=
 o.box d H fun a b =>
 o.load 1 true a b fun e =>
 o.call (C 27 [e] b) fun c f =>
 o.ext 0 c fun g =>
 o.ext 1 c fun h =>
 o.mkfn 63 0 [a] fun i =>
 o.call (C 22 [h, g, i] f) fun j k =>
 o.bstore 0 1 (.box [.slice nilSl]) j fun l =>
 o.resc 1 true (.box l) fun m =>
 some (m, k)
def f32_l3 (o : Ops) (K : Nat) (C : CallC) (l : SV -> SV -> SV -> SV -> Heap -> Rs) : SV -> SV -> SV -> SV -> SV -> SV -> SV -> SV -> Heap -> (SV -> SV -> SV -> SV -> SV -> SV -> SV -> SV -> Heap -> Rs) -> Rs := fun c d e f g h i a b m =>
 o.lss a i fun n =>
 (o.cond n
 (o.idx 2 h a fun p =>
 o.load 2 true p b fun q =>
 o.bstore 0 2 (.box [.bool false, .slice nilSl]) q fun r =>
 o.lload 0 2 true (.box r) fun s =>
 o.call (C 64 [s] b) fun j k =>
 o.ext 0 j fun t =>
 o.ext 1 j fun u =>
 o.u_not u fun v =>
 (o.cond v
 (some (.tuple [(.slice nilSl), (.bool false)], k))
 (o.hbuild 1 [.int .i64 0] [(0, 1)] [t] k fun w x =>
 o.append 1 8 d w x fun y z =>
 o.add a (.int .i64 1) fun A =>
 m c y e f g h i A z)))
 (o.hbuild 1 [.slice nilSl] [(0, 1)] [d] b fun B D =>
 o.append 1 24 c B D fun E F =>
 o.add g (.int .i64 1) fun G =>
 l E e f G F))
def f32_l1 (o : Ops) (K : Nat) (C : CallC) : SV -> SV -> SV -> SV -> Heap -> (SV -> SV -> SV -> SV -> Heap -> Rs) -> Rs := fun c d e a b g =>
 o.lss a e fun h =>
 (o.cond h
 (o.idx 1 d a fun i =>
 o.load 1 false i b fun f =>
 o.len f fun j =>
 (o.loop8 (f32_l3 o K C g) K c (.slice nilSl) d e a f j (.int .i64 0) b))
 (o.rest c fun k =>
 some (.tuple [k, (.bool true)], b)))
def f32 (o : Ops) (K : Nat) (C : CallC) (c : SV) (H : Heap) : Rs :=
 o.bbox c fun a =>
 o.lfld 0 (.box a) fun d =>
 o.lloadp 1 false (.box a) d fun b =>
 o.len b fun e =>
 (o.loop4 (f32_l1 o K C) K (.slice nilSl) b e (.int .i64 0) H)
def f33_l3 (o : Ops) (K : Nat) (C : CallC) (k : SV -> SV -> SV -> SV -> Heap -> Rs) : SV -> SV -> SV -> SV -> SV -> SV -> SV -> SV -> Heap -> (SV -> SV -> SV -> SV -> SV -> SV -> SV -> SV -> Heap -> Rs) -> Rs := fun d b e f g h i a c l =>
 o.lss a i fun m =>
 (o.cond m
 (o.idx 1 h a fun n =>
 o.load 1 false n c fun p =>
 o.callv C [b, e, a, p] c fun q j =>
 o.u_not q fun r =>
 (o.cond r
 (some ((.bool false), j))
 (o.add a (.int .i64 1) fun s =>
 l d b e f g h i s j)))
 (o.add g (.int .i64 1) fun t =>
 k d b f t c))
def f33_l1 (o : Ops) (K : Nat) (C : CallC) : SV -> SV -> SV -> SV -> Heap -> (SV -> SV -> SV -> SV -> Heap -> Rs) -> Rs := fun c f d a b g =>
 o.lss a d fun h =>
 (o.cond h
 (o.idx 1 c a fun i =>
 o.load 1 false i b fun e =>
 o.len e fun j =>
 (o.loop8 (f33_l3 o K C g) K c f a d a e j (.int .i64 0) b))
 (some ((.bool true), b)))
def f33 (o : Ops) (K : Nat) (C : CallC) (a b : SV) (H : Heap) : Rs :=
 o.len a fun c =>
 (o.loop4 (f33_l1 o K C) K a b c (.int .i64 0) H)
def f34 (o : Ops) (K : Nat) (C : CallC) (e f a : SV) (H : Heap) : Rs :=
 o.call (C 35 [a] H) fun b c =>
 o.rest b fun d =>
 some (d, c)
def f35_j1 (o : Ops) (K : Nat) (C : CallC) (a : SV) (b : Heap) : Rs :=
 o.rest a fun c =>
 some (c, b)
def f35 (o : Ops) (K : Nat) (C : CallC) (a : SV) (H : Heap) : Rs :=
 o.geq a (.int .i64 (-16384)) fun b =>
 (o.guard b
 (o.leq a (.int .i64 16384) fun c =>
 (f35_j1 o K C c H))
 ((f35_j1 o K C (.bool false) H))
 (none))
def f36 (o : Ops) (K : Nat) (C : CallC) (a b : SV) (H : Heap) : Rs :=
 o.call (C 65 [a, b] H) fun c d =>
 o.call (C 39 [c] d) fun e f =>
 o.bstore 0 2 (.box [.bool false, .slice nilSl]) e fun g =>
 o.resc 2 true (.box g) fun h =>
 some (h, f)
def f37 (o : Ops) (K : Nat) (C : CallC) (a : SV) (H : Heap) : Rs :=
 o.len a fun b =>
 o.eql b (.int .i64 0) fun c =>
 (o.cond c
 (some ((.int .i64 0), H))
 (o.idx 1 a (.int .i64 0) fun d =>
 o.load 1 false d H fun e =>
 o.len e fun f =>
 o.rest f fun g =>
 some (g, H)))
def f38_l3 (o : Ops) (K : Nat) (C : CallC) (f : SV -> SV -> SV -> Heap -> Rs) : SV -> SV -> SV -> SV -> Heap -> (SV -> SV -> SV -> SV -> Heap -> Rs) -> Rs := fun b e c d a g =>
 o.idx 1 b c fun h =>
 o.load 1 false h a fun i =>
 o.len i fun j =>
 o.lss d j fun k =>
 (o.cond k
 (o.idx 1 b c fun l =>
 o.load 1 false l a fun m =>
 o.idx 2 m d fun n =>
 o.fld 1 n fun p =>
 o.load 1 false p a fun q =>
 o.call (C 66 [q] a) fun r s =>
 o.max [e, r] fun t =>
 o.add d (.int .i64 1) fun u =>
 g b t c u s)
 (o.add c (.int .i64 1) fun v =>
 f b e v a))
def f38_l1 (o : Ops) (K : Nat) (C : CallC) : SV -> SV -> SV -> Heap -> (SV -> SV -> SV -> Heap -> Rs) -> Rs := fun a b c d f =>
 o.len a fun g =>
 o.lss c g fun h =>
 (o.cond h
 ((o.loop4 (f38_l3 o K C f) K a b c (.int .i64 0) d))
 (o.len a fun i =>
 o.call (C 37 [a] d) fun j k =>
 o.min [i, j] fun e =>
 o.conv .u64 e fun l =>
 o.call (C 67 [l] k) fun m n =>
 o.call (C 66 [m] n) fun p q =>
 o.mul (.int .i64 2) e fun r =>
 o.add b p fun s =>
 o.mul r s fun t =>
 o.gtr t (.int .i64 4096) fun u =>
 o.rest u fun v =>
 some (v, q)))
def f38 (o : Ops) (K : Nat) (C : CallC) (a : SV) (H : Heap) : Rs :=
 (o.loop3 (f38_l1 o K C) K a (.int .i64 0) (.int .i64 0) H)
def f39 (o : Ops) (K : Nat) (C : CallC) (b : SV) (H : Heap) : Rs :=
 o.call (C 68 [b] H) fun a c =>
 o.ext 0 a fun i =>
 o.ext 1 a fun d =>
 o.bstore 0 2 (.box [.bool false, .slice nilSl]) d fun e =>
 o.lload 0 2 true (.box e) fun f =>
 o.bstore 0 2 (.box [.bool false, .slice nilSl]) f fun g =>
 o.resc 2 true (.box g) fun h =>
 some (h, c)
def f40_j5 (o : Ops) (K : Nat) (C : CallC) (b : SV -> SV -> SV -> SV -> SV -> SV -> Heap -> Rs) (c d e f g h i j : SV) (a : Heap) : Rs :=
 (o.cond j
 (some (.tuple [(.slice nilSl), (.bool false)], a))
 (o.hbuild 1 [.int .i64 0] [(0, 1)] [i] a fun k l =>
 o.append 1 8 g k l fun m n =>
 o.add h (.int .i64 1) fun p =>
 b c d e f m p n))
def f40_l3 (o : Ops) (K : Nat) (C : CallC) (l : SV -> SV -> SV -> SV -> Heap -> Rs) : SV -> SV -> SV -> SV -> SV -> SV -> Heap -> (SV -> SV -> SV -> SV -> SV -> SV -> Heap -> Rs) -> Rs := fun a b g c h d e i =>
 o.idx 1 a c fun m =>
 o.load 1 false m e fun n =>
 o.len n fun p =>
 o.lss d p fun q =>
 (o.cond q
 (o.idx 1 a c fun r =>
 o.load 1 false r e fun s =>
 o.idx 2 s d fun t =>
 o.load 2 true t e fun u =>
 o.call (C 69 [u] e) fun k j =>
 o.ext 0 k fun f =>
 o.ext 1 k fun v =>
 o.u_not v fun w =>
 (o.guard w
 ((f40_j5 o K C i a b g c h d f (.bool true) j))
 (o.gtr f b fun x =>
 (o.guard x
 ((f40_j5 o K C i a b g c h d f (.bool true) j))
 (o.u_neg b fun y =>
 o.lss f y fun z =>
 (f40_j5 o K C i a b g c h d f z j))
 (none)))
 (none)))
 (o.hbuild 1 [.slice nilSl] [(0, 1)] [h] e fun A B =>
 o.append 1 24 g A B fun D E =>
 o.add c (.int .i64 1) fun F =>
 l a b D F E))
def f40_l1 (o : Ops) (K : Nat) (C : CallC) : SV -> SV -> SV -> SV -> Heap -> (SV -> SV -> SV -> SV -> Heap -> Rs) -> Rs := fun a e b c d f =>
 o.len a fun g =>
 o.lss c g fun h =>
 (o.cond h
 ((o.loop6 (f40_l3 o K C f) K a e b c (.slice nilSl) (.int .i64 0) d))
 (o.rest b fun i =>
 some (.tuple [i, (.bool true)], d)))
def f40 (o : Ops) (K : Nat) (C : CallC) (a b : SV) (H : Heap) : Rs :=
 (o.loop4 (f40_l1 o K C) K a b (.slice nilSl) (.int .i64 0) H)
def f41_l7 (o : Ops) (K : Nat) (C : CallC) (l : SV -> SV -> SV -> SV -> SV -> SV -> SV -> SV -> Heap -> Rs) : SV -> SV -> SV -> SV -> SV -> SV -> SV -> SV -> SV -> Heap -> (SV -> SV -> SV -> SV -> SV -> SV -> SV -> SV -> SV -> Heap -> Rs) -> Rs := fun b c j f k g h d e a m =>
 o.len b fun n =>
 o.lss e n fun p =>
 (o.cond p
 (o.idx 1 c f fun q =>
 o.load 1 false q a fun r =>
 o.idx 2 r d fun s =>
 o.load 2 true s a fun t =>
 o.idx 1 c g fun u =>
 o.load 1 false u a fun v =>
 o.idx 2 v e fun w =>
 o.load 2 true w a fun x =>
 o.call (C 71 [t, x] a) fun y i =>
 o.bstore 0 2 (.box [.bool false, .slice nilSl]) y fun z =>
 o.lload 0 2 true h fun A =>
 o.lload 0 2 true (.box z) fun B =>
 o.idx 1 b d fun D =>
 o.load 1 false D i fun E =>
 o.idx 1 E e fun F =>
 o.load 1 false F i fun G =>
 o.call (C 70 [G] i) fun I J =>
 o.call (C 71 [B, I] J) fun L M =>
 o.call (C 72 [A, L] M) fun N P =>
 o.bstore 0 2 h N fun Q =>
 o.add e (.int .i64 1) fun S =>
 m b c j f k g (.box Q) d S P)
 (o.add d (.int .i64 1) fun T =>
 l b c j f k g h T a))
def f41_l5 (o : Ops) (K : Nat) (C : CallC) (j : SV -> SV -> SV -> SV -> SV -> SV -> Heap -> Rs) : SV -> SV -> SV -> SV -> SV -> SV -> SV -> SV -> Heap -> (SV -> SV -> SV -> SV -> SV -> SV -> SV -> SV -> Heap -> Rs) -> Rs := fun a b c d e f g h i k =>
 o.len a fun l =>
 o.lss h l fun m =>
 (o.cond m
 ((o.loop9 (f41_l7 o K C k) K a b c d e f g h (.int .i64 0) i))
 (o.lload 0 2 true g fun n =>
 o.hbuild 2 [.bool false, .slice nilSl] [(0, 2)] [n] i fun p q =>
 o.append 2 32 e p q fun r s =>
 o.add f (.int .i64 1) fun t =>
 j a b c d r t s))
def f41_l3 (o : Ops) (K : Nat) (C : CallC) (h : SV -> SV -> SV -> SV -> Heap -> Rs) : SV -> SV -> SV -> SV -> SV -> SV -> Heap -> (SV -> SV -> SV -> SV -> SV -> SV -> Heap -> Rs) -> Rs := fun a b c d e f g i =>
 o.len a fun j =>
 o.lss f j fun k =>
 (o.cond k
 (o.call (C 70 [(.int .i64 0)] g) fun l m =>
 o.bstore 0 2 (.box [.bool false, .slice nilSl]) l fun n =>
 (o.loop8 (f41_l5 o K C i) K a b c d e f (.box n) (.int .i64 0) m))
 (o.hbuild 1 [.slice nilSl] [(0, 1)] [e] g fun p q =>
 o.append 1 24 c p q fun r s =>
 o.add d (.int .i64 1) fun t =>
 h a b r t s))
def f41_l1 (o : Ops) (K : Nat) (C : CallC) : SV -> SV -> SV -> SV -> Heap -> (SV -> SV -> SV -> SV -> Heap -> Rs) -> Rs := fun a e b c d f =>
 o.len a fun g =>
 o.lss c g fun h =>
 (o.cond h
 ((o.loop6 (f41_l3 o K C f) K a e b c (.slice nilSl) (.int .i64 0) d))
 (o.rest b fun i =>
 some (i, d)))
def f41 (o : Ops) (K : Nat) (C : CallC) (a b : SV) (H : Heap) : Rs :=
 (o.loop4 (f41_l1 o K C) K a b (.slice nilSl) (.int .i64 0) H)
def f42 (o : Ops) (K : Nat) (C : CallC) (b : SV) (H : Heap) : Rs :=
 o.bbox b fun a =>
 o.lfld 1 (.box a) fun c =>
 o.lloadp 1 true (.box a) c fun d =>
 o.bstore 0 1 (.box [.slice nilSl]) d fun e =>
 o.resc 1 true (.box e) fun f =>
 some (f, H)
def f43 (o : Ops) (K : Nat) (C : CallC) (a e f : SV) (H : Heap) : Rs :=
 o.call (C 19 [a] H) fun b c =>
 o.neq b (.int .i64 0) fun g =>
 (o.cond g
 (o.rest b fun h =>
 some (.tuple [(.int .i64 0), h], c))
 (o.call (C 73 [a, e, f] c) fun d i =>
 o.ext 0 d fun j =>
 o.ext 1 d fun k =>
 o.rest j fun l =>
 o.rest k fun m =>
 some (.tuple [l, m], i)))
def f44_l1 (o : Ops) (K : Nat) (C : CallC) : SV -> SV -> SV -> SV -> Heap -> (SV -> SV -> SV -> SV -> Heap -> Rs) -> Rs := fun c d e a b f =>
 o.lss a e fun g =>
 (o.cond g
 (o.idx 1 c a fun h =>
 o.load 1 false h b fun i =>
 o.len i fun j =>
 o.hbuild 1 [.int .i64 0] [(0, 1)] [j] b fun k l =>
 o.append 1 8 d k l fun m n =>
 o.add a (.int .i64 1) fun p =>
 f c m e p n)
 (o.rest d fun q =>
 some (q, b)))
def f44 (o : Ops) (K : Nat) (C : CallC) (a : SV) (H : Heap) : Rs :=
 o.len a fun b =>
 (o.loop4 (f44_l1 o K C) K a (.slice nilSl) b (.int .i64 0) H)
def f45 (o : Ops) (K : Nat) (C : CallC) (a b c : SV) (H : Heap) : Rs :=
 o.load 1 false c H fun d =>
 o.idx 1 d a fun e =>
 o.load 1 false e H fun f =>
 o.idx 1 f b fun g =>
 o.load 1 false g H fun h =>
 o.call (C 46 [h] H) fun i j =>
 o.bstore 0 2 (.box [.bool false, .slice nilSl]) i fun k =>
 o.resc 2 true (.box k) fun l =>
 some (l, j)
def f46 (o : Ops) (K : Nat) (C : CallC) (a : SV) (H : Heap) : Rs :=
 o.lss a (.int .i64 0) fun b =>
 (o.cond b
 (o.conv .u64 a fun c =>
 o.u_neg c fun d =>
 o.call (C 74 [d] H) fun e f =>
 o.build [.bool false, .slice nilSl] [(0, 1), (1, 1)] [(.bool true), e] fun g =>
 o.bstore 0 2 (.box [.bool false, .slice nilSl]) g fun h =>
 o.resc 2 true (.box h) fun i =>
 some (i, f))
 (o.conv .u64 a fun j =>
 o.call (C 74 [j] H) fun k l =>
 o.build [.bool false, .slice nilSl] [(1, 1)] [k] fun m =>
 o.bstore 0 2 (.box [.bool false, .slice nilSl]) m fun n =>
 o.resc 2 true (.box n) fun p =>
 some (p, l)))
def f47_l1 (o : Ops) (K : Nat) (C : CallC) : SV -> SV -> SV -> SV -> Heap -> (SV -> SV -> SV -> SV -> Heap -> Rs) -> Rs := fun b c e a d g =>
 o.geq a (.int .i64 0) fun h =>
 (o.cond h
 (o.shl e (.int .u64 32) fun i =>
 o.idx 1 b a fun j =>
 o.load 1 false j d fun k =>
 o.conv .u64 k fun l =>
 o.or i l fun f =>
 o.conv .u64 c fun m =>
 o.quo f m fun n =>
 o.conv .u32 n fun p =>
 o.conv .u64 c fun q =>
 o.rem f q fun r =>
 o.idx 1 b a fun s =>
 o.store 1 s p d fun t =>
 o.sub a (.int .i64 1) fun u =>
 g b c r u t)
 (o.conv .u32 e fun v =>
 o.rest v fun w =>
 some (w, d)))
def f47 (o : Ops) (K : Nat) (C : CallC) (a b : SV) (H : Heap) : Rs :=
 o.len a fun c =>
 o.sub c (.int .i64 1) fun d =>
 (o.loop4 (f47_l1 o K C) K a b (.int .u64 0) d H)
def f48_j2 (o : Ops) (K : Nat) (C : CallC) (e : SV -> SV -> SV -> Heap -> Rs) (c d a f : SV) (b : Heap) : Rs :=
 (o.cond f
 (o.sub a (.int .i64 1) fun g =>
 e c d g b)
 (o.slice011 1 c a a b fun h =>
 o.build [.slice nilSl] [(0, 1)] [h] fun i =>
 o.bstore 0 1 d i fun j =>
 o.resc 1 true (.box j) fun k =>
 some (k, b)))
def f48_l1 (o : Ops) (K : Nat) (C : CallC) : SV -> SV -> SV -> Heap -> (SV -> SV -> SV -> Heap -> Rs) -> Rs := fun b d a c e =>
 o.gtr a (.int .i64 0) fun f =>
 (o.guard f
 (o.sub a (.int .i64 1) fun g =>
 o.idx 1 b g fun h =>
 o.load 1 false h c fun i =>
 o.eql i (.int .u32 0) fun j =>
 (f48_j2 o K C e b d a j c))
 ((f48_j2 o K C e b d a (.bool false) c))
 (none))
def f48 (o : Ops) (K : Nat) (C : CallC) (a : SV) (H : Heap) : Rs :=
 o.len a fun b =>
 (o.loop3 (f48_l1 o K C) K a (.box [.slice nilSl]) b H)
def f49 (o : Ops) (K : Nat) (C : CallC) (e f a : SV) (H : Heap) : Rs :=
 o.call (C 35 [a] H) fun b c =>
 o.rest b fun d =>
 some (d, c)
def f50 (o : Ops) (K : Nat) (C : CallC) (a b c d : SV) (H : Heap) : Rs :=
 o.load 1 false d H fun e =>
 o.idx 1 e b fun f =>
 o.load 1 false f H fun g =>
 o.idx 1 g a fun h =>
 o.load 1 false h H fun i =>
 o.eql c i fun j =>
 o.rest j fun k =>
 some (k, H)
def f51_l6 (o : Ops) (K : Nat) (C : CallC) (s : SV -> SV -> SV -> SV -> SV -> SV -> SV -> Heap -> Rs) : SV -> SV -> SV -> SV -> SV -> SV -> SV -> SV -> Heap -> (SV -> SV -> SV -> SV -> SV -> SV -> SV -> SV -> Heap -> Rs) -> Rs := fun g a h b d e j k c t =>
 o.lss e g fun u =>
 (o.cond u
 (o.idx 1 a b fun v =>
 o.load 1 false v c fun w =>
 o.idx 2 w b fun x =>
 o.load 2 true x c fun y =>
 o.idx 1 a d fun z =>
 o.load 1 false z c fun A =>
 o.idx 2 A e fun B =>
 o.load 2 true B c fun D =>
 o.call (C 61 [y, D] c) fun l f =>
 o.ext 0 l fun E =>
 o.ext 1 l fun ah =>
 o.bstore 0 2 (.box [.bool false, .slice nilSl]) E fun F =>
 o.idx 1 a d fun G =>
 o.load 1 false G f fun I =>
 o.idx 2 I b fun J =>
 o.load 2 true J f fun L =>
 o.idx 1 a b fun M =>
 o.load 1 false M f fun N =>
 o.idx 2 N e fun P =>
 o.load 2 true P f fun Q =>
 o.call (C 61 [L, Q] f) fun m S =>
 o.ext 0 m fun T =>
 o.ext 1 m fun ai =>
 o.bstore 0 2 (.box [.bool false, .slice nilSl]) T fun U =>
 o.lload 0 2 true (.box F) fun V =>
 o.lload 0 2 true (.box U) fun W =>
 o.call (C 77 [V, W] S) fun n i =>
 o.ext 0 n fun X =>
 o.ext 1 n fun aj =>
 o.bstore 0 2 (.box [.bool false, .slice nilSl]) X fun Y =>
 o.idx 1 a d fun p =>
 o.load 1 false p i fun Z =>
 o.lload 0 2 true (.box Y) fun aa =>
 o.lload 0 2 true h fun ab =>
 o.call (C 78 [aa, ab] i) fun q r =>
 o.ext 0 q fun ac =>
 o.ext 1 q fun ak =>
 o.idx 2 Z e fun ad =>
 o.store 2 ad ac r fun ae =>
 (o.same p i r (o.add e (.int .i64 1) fun af =>
 t g a h b d af j k ae)))
 (o.add d (.int .i64 1) fun ag =>
 s g a h b ag j k c))
def f51_l4 (o : Ops) (K : Nat) (C : CallC) (i : SV -> SV -> SV -> SV -> SV -> Heap -> Rs) : SV -> SV -> SV -> SV -> SV -> SV -> SV -> Heap -> (SV -> SV -> SV -> SV -> SV -> SV -> SV -> Heap -> Rs) -> Rs := fun c d e a f g h b j =>
 o.lss f c fun k =>
 (o.cond k
 (o.add a (.int .i64 1) fun l =>
 (o.loop8 (f51_l6 o K C j) K c d e a f l g h b))
 (o.idx 1 d a fun m =>
 o.load 1 false m b fun n =>
 o.idx 2 n a fun p =>
 o.load 2 true p b fun q =>
 o.bstore 0 2 e q fun r =>
 o.add h (.int .i64 1) fun s =>
 i c d (.box r) g s b))
def f51_l1 (o : Ops) (K : Nat) (C : CallC) : SV -> SV -> SV -> SV -> SV -> Heap -> (SV -> SV -> SV -> SV -> SV -> Heap -> Rs) -> Rs := fun f c g d a b h =>
 o.lss a d fun i =>
 (o.cond i
 (o.idx 1 c a fun j =>
 o.load 1 false j b fun k =>
 o.idx 2 k a fun l =>
 o.load 2 true l b fun m =>
 o.call (C 29 [m] b) fun n e =>
 o.leq n (.int .i64 0) fun p =>
 (o.cond p
 (some ((.bool false), e))
 (o.add a (.int .i64 1) fun q =>
 (o.loop7 (f51_l4 o K C h) K f c g a q d a e))))
 (some ((.bool true), b)))
def f51 (o : Ops) (K : Nat) (C : CallC) (d : SV) (H : Heap) : Rs :=
 o.box d H fun b c =>
 o.load 1 false b c fun e =>
 o.len e fun a =>
 o.mkfn 76 0 [b] fun f =>
 o.call (C 75 [a, f] c) fun g h =>
 o.call (C 46 [(.int .i64 1)] h) fun i j =>
 o.bstore 0 2 (.box [.bool false, .slice nilSl]) i fun k =>
 (o.loop5 (f51_l1 o K C) K a g (.box k) a (.int .i64 0) j)
def f52_j5 (o : Ops) (K : Nat) (C : CallC) (c : SV -> SV -> SV -> SV -> Heap -> Rs) (d a e f g : SV) (b : Heap) : Rs :=
 (o.cond g
 (o.build [.slice nilSl] [] [] fun h =>
 o.bstore 0 1 a h fun i =>
 o.resc 1 true (.box i) fun j =>
 some (.tuple [j, (.int .i64 12)], b))
 (o.add f (.int .i64 1) fun k =>
 c d a e k b))
def f52_j20 (o : Ops) (K : Nat) (C : CallC) (a : SV -> SV -> SV -> Heap -> Rs) (b c d e : SV) (f : Heap) : Rs :=
 o.strcut10 b e fun g =>
 a g c d f
def f52_l16 (o : Ops) (K : Nat) (C : CallC) (h : SV -> SV -> SV -> Heap -> Rs) : SV -> SV -> SV -> SV -> SV -> SV -> SV -> SV -> Heap -> (SV -> SV -> SV -> SV -> SV -> SV -> SV -> SV -> Heap -> Rs) -> Rs := fun d e a f g i j b c l =>
 o.lss b j fun m =>
 (o.cond m
 (o.idx 1 a b fun n =>
 o.load 1 false n c fun p =>
 o.conv .u64 p fun q =>
 o.mul q i fun r =>
 o.add r g fun k =>
 o.conv .u32 k fun s =>
 o.shr k (.int .u64 32) fun t =>
 o.idx 1 a b fun u =>
 o.store 1 u s c fun v =>
 o.add b (.int .i64 1) fun w =>
 l d e a f t i j w v)
 (o.gtr g (.int .u64 0) fun x =>
 (o.cond x
 (o.conv .u32 g fun y =>
 o.hbuild 1 [.int .u32 0] [(0, 1)] [y] c fun z A =>
 o.append 1 4 a z A fun B D =>
 (f52_j20 o K C h d e B f D))
 ((f52_j20 o K C h d e a f c)))))
def f52_l12 (o : Ops) (K : Nat) (C : CallC) (j : SV -> SV -> SV -> Heap -> Rs) : SV -> SV -> SV -> SV -> SV -> SV -> SV -> SV -> Heap -> (SV -> SV -> SV -> SV -> SV -> SV -> SV -> SV -> Heap -> Rs) -> Rs := fun a d b e f g h c i k =>
 o.lss c h fun l =>
 (o.cond l
 (o.mul (.int .u64 10) f fun m =>
 o.stridx a c fun n =>
 o.sub n (.int .u8 48) fun p =>
 o.conv .u64 p fun q =>
 o.add m q fun r =>
 o.mul (.int .u64 10) g fun s =>
 o.add c (.int .i64 1) fun t =>
 k a d b e r s h t i)
 (o.len b fun u =>
 (o.loop8 (f52_l16 o K C j) K a d b e f g u (.int .i64 0) i)))
def f52_l10 (o : Ops) (K : Nat) (C : CallC) : SV -> SV -> SV -> Heap -> (SV -> SV -> SV -> Heap -> Rs) -> Rs := fun a b c d g =>
 o.slen a fun h =>
 o.gtr h (.int .i64 0) fun i =>
 (o.cond i
 (o.slen a fun j =>
 o.sub j (.int .i64 1) fun k =>
 o.rem k (.int .i64 9) fun l =>
 o.add l (.int .i64 1) fun e =>
 (o.loop8 (f52_l12 o K C g) K a b c e (.int .u64 0) (.int .u64 1) e (.int .i64 0) d))
 (o.call (C 48 [c] d) fun m n =>
 o.call (C 79 [m] n) fun f p =>
 o.ext 0 f fun q =>
 o.ext 1 f fun r =>
 o.bstore 0 1 b q fun s =>
 o.resc 1 true (.box s) fun t =>
 o.rest r fun u =>
 some (.tuple [t, u], p)))
def f52_l3 (o : Ops) (K : Nat) (C : CallC) : SV -> SV -> SV -> SV -> Heap -> (SV -> SV -> SV -> SV -> Heap -> Rs) -> Rs := fun a c e b d f =>
 o.lss b e fun g =>
 (o.cond g
 (o.stridx a b fun h =>
 o.lss h (.int .u8 48) fun i =>
 (o.guard i
 ((f52_j5 o K C f a c e b (.bool true) d))
 (o.stridx a b fun j =>
 o.gtr j (.int .u8 57) fun k =>
 (f52_j5 o K C f a c e b k d))
 (none)))
 (o.slen a fun l =>
 o.gtr l (.int .i64 4096) fun m =>
 (o.cond m
 (o.build [.slice nilSl] [] [] fun n =>
 o.bstore 0 1 c n fun p =>
 o.resc 1 true (.box p) fun q =>
 some (.tuple [q, (.int .i64 3)], d))
 ((o.loop3 (f52_l10 o K C) K a c (.slice nilSl) d)))))
def f52_j1 (o : Ops) (K : Nat) (C : CallC) (a b d : SV) (c : Heap) : Rs :=
 (o.cond d
 (o.build [.slice nilSl] [] [] fun e =>
 o.bstore 0 1 b e fun f =>
 o.resc 1 true (.box f) fun g =>
 some (.tuple [g, (.int .i64 12)], c))
 (o.slen a fun h =>
 (o.loop4 (f52_l3 o K C) K a b h (.int .i64 0) c)))
def f52 (o : Ops) (K : Nat) (C : CallC) (a : SV) (H : Heap) : Rs :=
 o.eql a (.str []) fun b =>
 (o.guard b
 ((f52_j1 o K C a (.box [.slice nilSl]) (.bool true) H))
 (o.slen a fun c =>
 o.gtr c (.int .i64 1) fun d =>
 (o.guard d
 (o.stridx a (.int .i64 0) fun e =>
 o.eql e (.int .u8 48) fun f =>
 (f52_j1 o K C a (.box [.slice nilSl]) f H))
 ((f52_j1 o K C a (.box [.slice nilSl]) (.bool false) H))
 (none)))
 (none))
def f53_j1 (o : Ops) (K : Nat) (C : CallC) (a : SV) (b : Heap) : Rs :=
 o.resc 2 true a fun c =>
 some (c, b)
def f53 (o : Ops) (K : Nat) (C : CallC) (b c : SV) (H : Heap) : Rs :=
 o.bbox c fun a =>
 (o.guard b
 (o.lload 0 1 true (.box a) fun d =>
 o.call (C 58 [d] H) fun e f =>
 o.gtr e (.int .i64 0) fun g =>
 o.lload 0 1 true (.box a) fun h =>
 o.build [.bool false, .slice nilSl] [(0, 1), (1, 1)] [g, h] fun i =>
 o.bstore 0 2 (.box [.bool false, .slice nilSl]) i fun j =>
 (f53_j1 o K C (.box j) f))
 (o.lload 0 1 true (.box a) fun k =>
 o.build [.bool false, .slice nilSl] [(0, 1), (1, 1)] [(.bool false), k] fun l =>
 o.bstore 0 2 (.box [.bool false, .slice nilSl]) l fun m =>
 (f53_j1 o K C (.box m) H))
 (none))
def f54_j5 (o : Ops) (K : Nat) (C : CallC) (b : SV -> SV -> Heap -> Rs) (c d e : SV) (a : Heap) : Rs :=
 (o.cond e
 (some ((.bool false), a))
 (o.add d (.int .i64 1) fun f =>
 b c f a))
def f54_l3 (o : Ops) (K : Nat) (C : CallC) : SV -> SV -> Heap -> (SV -> SV -> Heap -> Rs) -> Rs := fun a b c d =>
 o.slen a fun e =>
 o.lss b e fun f =>
 (o.cond f
 (o.stridx a b fun g =>
 o.lss g (.int .u8 48) fun h =>
 (o.guard h
 ((f54_j5 o K C d a b (.bool true) c))
 (o.stridx a b fun i =>
 o.gtr i (.int .u8 57) fun j =>
 (f54_j5 o K C d a b j c))
 (none)))
 (some ((.bool true), c)))
def f54_j1 (o : Ops) (K : Nat) (C : CallC) (b c : SV) (a : Heap) : Rs :=
 (o.cond c
 (some ((.bool false), a))
 ((o.loop2 (f54_l3 o K C) K b (.int .i64 0) a)))
def f54 (o : Ops) (K : Nat) (C : CallC) (a : SV) (H : Heap) : Rs :=
 o.slen a fun b =>
 o.eql b (.int .i64 0) fun c =>
 (o.guard c
 ((f54_j1 o K C a (.bool true) H))
 (o.slen a fun d =>
 o.gtr d (.int .i64 1) fun e =>
 (o.guard e
 (o.stridx a (.int .i64 0) fun f =>
 o.eql f (.int .u8 48) fun g =>
 (f54_j1 o K C a g H))
 ((f54_j1 o K C a (.bool false) H))
 (none)))
 (none))
def f55_l2 (o : Ops) (K : Nat) (C : CallC) : SV -> SV -> SV -> Heap -> (SV -> SV -> SV -> Heap -> Rs) -> Rs := fun a b c d f =>
 o.slen a fun g =>
 o.lss c g fun h =>
 (o.cond h
 (o.call (C 67 [(.int .u64 10)] d) fun i j =>
 o.call (C 81 [b, i] j) fun k l =>
 o.stridx a c fun m =>
 o.sub m (.int .u8 48) fun n =>
 o.conv .u64 n fun p =>
 o.call (C 67 [p] l) fun q r =>
 o.call (C 80 [k, q] r) fun s t =>
 o.add c (.int .i64 1) fun u =>
 f a s u t)
 (o.call (C 82 [b] d) fun v e =>
 (o.cond v
 (some (.tuple [(.slice nilSl), (.bool false)], e))
 (o.rest b fun w =>
 some (.tuple [w, (.bool true)], e)))))
def f55 (o : Ops) (K : Nat) (C : CallC) (a : SV) (H : Heap) : Rs :=
 o.slen a fun b =>
 o.gtr b (.int .i64 1300) fun c =>
 (o.cond c
 (some (.tuple [(.slice nilSl), (.bool false)], H))
 ((o.loop3 (f55_l2 o K C) K a (.slice nilSl) (.int .i64 0) H)))
def f56 (o : Ops) (K : Nat) (C : CallC) (e : SV) (H : Heap) : Rs :=
 o.bbox e fun a =>
 o.lload 0 1 true (.box a) fun f =>
 o.call (C 27 [f] H) fun b c =>
 o.ext 0 b fun g =>
 o.ext 1 b fun h =>
 o.neq g h fun i =>
 (o.cond i
 (some ((.int .i64 5), c))
 (o.lload 0 1 true (.box a) fun j =>
 o.call (C 83 [j] c) fun k d =>
 (o.cond k
 (some ((.int .i64 3), d))
 (some ((.int .i64 0), d)))))
def f57_j9 (o : Ops) (K : Nat) (C : CallC) (a : SV -> SV -> SV -> SV -> SV -> SV -> SV -> SV -> Heap -> Rs) (b c d e f g h i : SV) (j : Heap) : Rs :=
 o.add i (.int .i64 1) fun k =>
 a b c d e f g h k j
def f57_l14 (o : Ops) (K : Nat) (C : CallC) (u : SV -> SV -> SV -> SV -> SV -> SV -> SV -> SV -> SV -> Heap -> Rs) : SV -> SV -> SV -> SV -> SV -> SV -> SV -> SV -> SV -> SV -> Heap -> (SV -> SV -> SV -> SV -> SV -> SV -> SV -> SV -> SV -> SV -> Heap -> Rs) -> Rs := fun k l h a i m g d c e b v =>
 o.lss e h fun w =>
 (o.cond w
 (o.idx 1 a g fun x =>
 o.load 1 false x b fun y =>
 o.idx 2 y d fun z =>
 o.load 2 true z b fun A =>
 o.idx 1 a c fun B =>
 o.load 1 false B b fun D =>
 o.idx 2 D e fun E =>
 o.load 2 true E b fun F =>
 o.call (C 61 [A, F] b) fun n f =>
 o.ext 0 n fun G =>
 o.ext 1 n fun ap =>
 o.bstore 0 2 (.box [.bool false, .slice nilSl]) G fun I =>
 o.idx 1 a c fun J =>
 o.load 1 false J f fun L =>
 o.idx 2 L d fun M =>
 o.load 2 true M f fun N =>
 o.idx 1 a g fun P =>
 o.load 1 false P f fun Q =>
 o.idx 2 Q e fun S =>
 o.load 2 true S f fun T =>
 o.call (C 61 [N, T] f) fun p U =>
 o.ext 0 p fun V =>
 o.ext 1 p fun aq =>
 o.bstore 0 2 (.box [.bool false, .slice nilSl]) V fun W =>
 o.lload 0 2 true (.box I) fun X =>
 o.lload 0 2 true (.box W) fun Y =>
 o.call (C 77 [X, Y] U) fun q j =>
 o.ext 0 q fun Z =>
 o.ext 1 q fun ar =>
 o.bstore 0 2 (.box [.bool false, .slice nilSl]) Z fun aa =>
 o.idx 1 a c fun r =>
 o.load 1 false r j fun ab =>
 o.lload 0 2 true (.box aa) fun ac =>
 o.lload 0 2 true i fun ad =>
 o.call (C 78 [ac, ad] j) fun s t =>
 o.ext 0 s fun ae =>
 o.ext 1 s fun as =>
 o.idx 2 ab e fun af =>
 o.store 2 af ae t fun ag =>
 (o.same r j t (o.add e (.int .i64 1) fun ah =>
 v k l h a i m g d c ah ag)))
 (o.idx 1 a c fun ai =>
 o.load 1 false ai b fun aj =>
 o.build [.bool false, .slice nilSl] [] [] fun ak =>
 o.idx 2 aj d fun al =>
 o.store 2 al ak b fun am =>
 o.add c (.int .i64 1) fun an =>
 u k l h a i m g d an am))
def f57_l12 (o : Ops) (K : Nat) (C : CallC) (k : SV -> SV -> SV -> SV -> SV -> SV -> SV -> SV -> Heap -> Rs) : SV -> SV -> SV -> SV -> SV -> SV -> SV -> SV -> SV -> Heap -> (SV -> SV -> SV -> SV -> SV -> SV -> SV -> SV -> SV -> Heap -> Rs) -> Rs := fun f c g d h i e a j b l =>
 o.lss j c fun m =>
 (o.cond m
 (o.add a (.int .i64 1) fun n =>
 (o.loop10 (f57_l14 o K C l) K f c g d h i e a j n b))
 (o.idx 1 d e fun p =>
 o.load 1 false p b fun q =>
 o.idx 2 q a fun r =>
 o.load 2 true r b fun s =>
 o.bstore 0 2 h s fun t =>
 o.add e (.int .i64 1) fun u =>
 (f57_j9 o K C k f c g d (.box t) i u a b)))
def f57_j11 (o : Ops) (K : Nat) (C : CallC) (b : SV -> SV -> SV -> SV -> SV -> SV -> SV -> SV -> Heap -> Rs) (c d e f g h a i : SV) (j : Heap) : Rs :=
 o.add a (.int .i64 1) fun k =>
 (o.loop9 (f57_l12 o K C b) K c d e f g h a i k j)
def f57_j5 (o : Ops) (K : Nat) (C : CallC) (k : SV -> SV -> SV -> SV -> SV -> SV -> SV -> SV -> Heap -> Rs) (l : SV -> SV -> SV -> SV -> SV -> SV -> SV -> SV -> SV -> Heap -> Rs) (f d g a h i b j e m : SV) (c : Heap) : Rs :=
 (o.cond m
 (o.add e (.int .i64 1) fun n =>
 l f d g a h i b j n c)
 (o.eql e d fun p =>
 (o.cond p
 ((f57_j9 o K C k f d g a h i b j c))
 (o.neq e b fun q =>
 (o.cond q
 (o.idx 1 a b fun r =>
 o.load 1 false r c fun s =>
 o.idx 1 a e fun t =>
 o.load 1 false t c fun u =>
 o.idx 1 a e fun v =>
 o.store 1 v s c fun w =>
 o.idx 1 a b fun x =>
 o.store 1 x u w fun y =>
 o.u_neg i fun z =>
 (f57_j11 o K C k f d g a h z b j y))
 ((f57_j11 o K C k f d g a h i b j c)))))))
def f57_l4 (o : Ops) (K : Nat) (C : CallC) (f : SV -> SV -> SV -> SV -> SV -> SV -> SV -> SV -> Heap -> Rs) : SV -> SV -> SV -> SV -> SV -> SV -> SV -> SV -> SV -> Heap -> (SV -> SV -> SV -> SV -> SV -> SV -> SV -> SV -> SV -> Heap -> Rs) -> Rs := fun g c h d i j k e a b l =>
 o.lss a c fun m =>
 (o.guard m
 (o.idx 1 d a fun n =>
 o.load 1 false n b fun p =>
 o.idx 2 p e fun q =>
 o.load 2 true q b fun r =>
 o.call (C 29 [r] b) fun s t =>
 o.eql s (.int .i64 0) fun u =>
 (f57_j5 o K C f l g c h d i j k e a u t))
 ((f57_j5 o K C f l g c h d i j k e a (.bool false) b))
 (none))
def f57_j2 (o : Ops) (K : Nat) (C : CallC) (g : SV -> SV -> SV -> SV -> SV -> SV -> SV -> SV -> Heap -> Rs) (b e h i d f a j k : SV) (c : Heap) : Rs :=
 (o.cond k
 ((o.loop9 (f57_l4 o K C g) K b e h i d f a j a c))
 (o.lss a e fun l =>
 (o.cond l
 (o.build [.bool false, .slice nilSl] [] [] fun m =>
 o.bstore 0 2 b m fun n =>
 o.rest a fun p =>
 o.resc 2 true (.box n) fun q =>
 some (.tuple [p, q], c))
 (o.lss f (.int .i64 0) fun r =>
 (o.cond r
 (o.lload 0 2 true d fun s =>
 o.call (C 85 [s] c) fun t u =>
 o.bstore 0 2 b t fun v =>
 o.rest a fun w =>
 o.resc 2 true (.box v) fun x =>
 some (.tuple [w, x], u))
 (o.lload 0 2 true d fun y =>
 o.bstore 0 2 b y fun z =>
 o.rest a fun A =>
 o.resc 2 true (.box z) fun B =>
 some (.tuple [A, B], c)))))))
def f57_l1 (o : Ops) (K : Nat) (C : CallC) : SV -> SV -> SV -> SV -> SV -> SV -> SV -> SV -> Heap -> (SV -> SV -> SV -> SV -> SV -> SV -> SV -> SV -> Heap -> Rs) -> Rs := fun e a b f g h c d i j =>
 o.lss d b fun k =>
 (o.guard k
 (o.lss c a fun l =>
 (f57_j2 o K C j e a b f g h c d l i))
 ((f57_j2 o K C j e a b f g h c d (.bool false) i))
 (none))
def f57 (o : Ops) (K : Nat) (C : CallC) (e : SV) (H : Heap) : Rs :=
 o.bbox e fun a =>
 o.lload 0 1 true (.box a) fun f =>
 o.call (C 27 [f] H) fun b g =>
 o.ext 0 b fun c =>
 o.ext 1 b fun d =>
 o.lload 0 1 true (.box a) fun h =>
 o.mkfn 84 1 [h] fun i =>
 o.call (C 22 [c, d, i] g) fun j k =>
 o.fieldv 0 1 false j fun l =>
 o.call (C 46 [(.int .i64 1)] k) fun m n =>
 o.bstore 0 2 (.box [.bool false, .slice nilSl]) m fun p =>
 (o.loop8 (f57_l1 o K C) K (.box [.bool false, .slice nilSl]) c d l (.box p) (.int .i64 1) (.int .i64 0) (.int .i64 0) n)
def f58 (o : Ops) (K : Nat) (C : CallC) (b : SV) (H : Heap) : Rs :=
 o.bbox b fun a =>
 o.lfld 0 (.box a) fun c =>
 o.lloadp 1 false (.box a) c fun d =>
 o.len d fun e =>
 o.eql e (.int .i64 0) fun f =>
 (o.cond f
 (some ((.int .i64 0), H))
 (o.lfld 0 (.box a) fun g =>
 o.lloadp 1 false (.box a) g fun h =>
 o.len h fun i =>
 o.sub i (.int .i64 1) fun j =>
 o.mul (.int .i64 32) j fun k =>
 o.lfld 0 (.box a) fun l =>
 o.lloadp 1 false (.box a) l fun m =>
 o.lfld 0 (.box a) fun n =>
 o.lloadp 1 false (.box a) n fun p =>
 o.len p fun q =>
 o.sub q (.int .i64 1) fun r =>
 o.idx 1 m r fun s =>
 o.load 1 false s H fun t =>
 o.call (C 86 [t] H) fun u v =>
 o.add k u fun w =>
 o.rest w fun x =>
 some (x, v)))
def f59 (o : Ops) (K : Nat) (C : CallC) (c d e : SV) (H : Heap) : Rs :=
 o.box e H fun f g =>
 o.alloc [.int .i64 0] g fun a h =>
 o.store 1 a (.int .i64 0) h fun i =>
 o.mkfn 87 0 [a, f] fun j =>
 o.call (C 22 [c, d, j] i) fun k b =>
 o.bstore 0 1 (.box [.slice nilSl]) k fun l =>
 o.load 1 false a b fun m =>
 o.neq m (.int .i64 0) fun n =>
 (o.cond n
 (o.build [.slice nilSl] [] [] fun p =>
 o.load 1 false a b fun q =>
 o.bstore 0 1 (.box [.slice nilSl]) p fun r =>
 o.resc 1 true (.box r) fun s =>
 o.rest q fun t =>
 some (.tuple [s, t], b))
 (o.lload 0 1 true (.box l) fun u =>
 o.bstore 0 1 (.box [.slice nilSl]) u fun v =>
 o.resc 1 true (.box v) fun w =>
 some (.tuple [w, (.int .i64 0)], b)))
def f60_l1 (o : Ops) (K : Nat) (C : CallC) : SV -> SV -> SV -> SV -> SV -> SV -> SV -> SV -> Heap -> (SV -> SV -> SV -> SV -> SV -> SV -> SV -> SV -> Heap -> Rs) -> Rs := fun e f g h b c i d a r =>
 o.lss d i fun s =>
 (o.cond s
 (o.fld 0 g fun t =>
 o.load 1 false t a fun u =>
 o.idx 1 u e fun v =>
 o.load 1 false v a fun w =>
 o.idx 2 w d fun x =>
 o.load 2 true x a fun y =>
 o.fld 0 h fun z =>
 o.load 1 false z a fun A =>
 o.idx 1 A d fun B =>
 o.load 1 false B a fun D =>
 o.idx 2 D f fun E =>
 o.load 2 true E a fun F =>
 o.call (C 61 [y, F] a) fun j k =>
 o.ext 0 j fun G =>
 o.ext 1 j fun l =>
 o.bstore 0 2 (.box [.bool false, .slice nilSl]) G fun I =>
 o.neq l (.int .i64 0) fun J =>
 (o.cond J
 (o.lload 0 2 true c fun L =>
 o.bstore 0 2 b L fun M =>
 o.resc 2 true (.box M) fun N =>
 o.rest l fun P =>
 some (.tuple [N, P], k))
 (o.lload 0 2 true c fun Q =>
 o.lload 0 2 true (.box I) fun S =>
 o.call (C 62 [Q, S] k) fun m n =>
 o.ext 0 m fun T =>
 o.ext 1 m fun p =>
 o.bstore 0 2 c T fun q =>
 o.neq p (.int .i64 0) fun U =>
 (o.cond U
 (o.lload 0 2 true (.box q) fun V =>
 o.bstore 0 2 b V fun W =>
 o.resc 2 true (.box W) fun X =>
 o.rest p fun Y =>
 some (.tuple [X, Y], n))
 (o.add d (.int .i64 1) fun Z =>
 r e f g h b (.box q) i Z n)))))
 (o.lload 0 2 true c fun aa =>
 o.bstore 0 2 b aa fun ab =>
 o.resc 2 true (.box ab) fun ac =>
 some (.tuple [ac, (.int .i64 0)], a)))
def f60 (o : Ops) (K : Nat) (C : CallC) (a b c d e : SV) (H : Heap) : Rs :=
 o.build [.bool false, .slice nilSl] [] [] fun f =>
 o.bstore 0 2 (.box [.bool false, .slice nilSl]) f fun g =>
 o.load 1 false c H fun h =>
 (o.loop8 (f60_l1 o K C) K a b d e (.box [.bool false, .slice nilSl]) (.box g) h (.int .i64 0) H)
def f61 (o : Ops) (K : Nat) (C : CallC) (d e : SV) (H : Heap) : Rs :=
 o.bbox d fun a =>
 o.bbox e fun b =>
 o.lfld 1 (.box a) fun f =>
 o.lloadp 1 true (.box a) f fun g =>
 o.lfld 1 (.box b) fun h =>
 o.lloadp 1 true (.box b) h fun i =>
 o.call (C 88 [g, i] H) fun c j =>
 o.ext 0 c fun k =>
 o.ext 1 c fun l =>
 o.bstore 0 1 (.box [.slice nilSl]) k fun m =>
 o.lfld 0 (.box a) fun n =>
 o.lloadp 1 false (.box a) n fun p =>
 o.lfld 0 (.box b) fun q =>
 o.lloadp 1 false (.box b) q fun r =>
 o.b_neq p r fun s =>
 o.lload 0 1 true (.box m) fun t =>
 o.call (C 53 [s, t] j) fun u v =>
 o.bstore 0 2 (.box [.bool false, .slice nilSl]) u fun w =>
 o.resc 2 true (.box w) fun x =>
 o.rest l fun y =>
 some (.tuple [x, y], v)
def f62_j2 (o : Ops) (K : Nat) (C : CallC) (a b d : SV) (e : Heap) : Rs :=
 o.lfld 1 a fun f =>
 o.lloadp 1 true a f fun g =>
 o.lfld 1 b fun h =>
 o.lloadp 1 true b h fun i =>
 o.call (C 91 [g, i] e) fun c j =>
 o.ext 0 c fun k =>
 o.ext 1 c fun l =>
 o.bstore 0 1 (.box [.slice nilSl]) k fun m =>
 o.lfld 0 a fun n =>
 o.lloadp 1 false a n fun p =>
 o.lload 0 1 true (.box m) fun q =>
 o.call (C 53 [p, q] j) fun r s =>
 o.bstore 0 2 d r fun t =>
 o.resc 2 true (.box t) fun u =>
 o.rest l fun v =>
 some (.tuple [u, v], s)
def f62 (o : Ops) (K : Nat) (C : CallC) (e f : SV) (H : Heap) : Rs :=
 o.bbox e fun a =>
 o.bbox f fun b =>
 o.lfld 0 (.box a) fun g =>
 o.lloadp 1 false (.box a) g fun h =>
 o.lfld 0 (.box b) fun i =>
 o.lloadp 1 false (.box b) i fun j =>
 o.b_eql h j fun k =>
 (o.cond k
 (o.lfld 1 (.box a) fun l =>
 o.lloadp 1 true (.box a) l fun m =>
 o.lfld 1 (.box b) fun n =>
 o.lloadp 1 true (.box b) n fun p =>
 o.call (C 89 [m, p] H) fun c q =>
 o.ext 0 c fun r =>
 o.ext 1 c fun s =>
 o.bstore 0 1 (.box [.slice nilSl]) r fun t =>
 o.lfld 0 (.box a) fun u =>
 o.lloadp 1 false (.box a) u fun v =>
 o.lload 0 1 true (.box t) fun w =>
 o.call (C 53 [v, w] q) fun x y =>
 o.bstore 0 2 (.box [.bool false, .slice nilSl]) x fun z =>
 o.resc 2 true (.box z) fun A =>
 o.rest s fun B =>
 some (.tuple [A, B], y))
 (o.lfld 1 (.box a) fun D =>
 o.lloadp 1 true (.box a) D fun E =>
 o.lfld 1 (.box b) fun F =>
 o.lloadp 1 true (.box b) F fun G =>
 o.call (C 90 [E, G] H) fun I d =>
 o.lss I (.int .i64 0) fun J =>
 (o.cond J
 (o.lload 0 2 true (.box b) fun L =>
 o.lload 0 2 true (.box a) fun M =>
 o.bstore 0 2 (.box a) L fun N =>
 o.bstore 0 2 (.box b) M fun P =>
 (f62_j2 o K C (.box N) (.box P) (.box [.bool false, .slice nilSl]) d))
 ((f62_j2 o K C (.box a) (.box b) (.box [.bool false, .slice nilSl]) d)))))
def f63 (o : Ops) (K : Nat) (C : CallC) (a b c : SV) (H : Heap) : Rs :=
 o.fld 0 c fun d =>
 o.load 1 false d H fun e =>
 o.idx 1 e b fun f =>
 o.load 1 false f H fun g =>
 o.idx 2 g a fun h =>
 o.load 2 true h H fun i =>
 o.bstore 0 2 (.box [.bool false, .slice nilSl]) i fun j =>
 o.resc 2 true (.box j) fun k =>
 some (k, H)
def f64_j1 (o : Ops) (K : Nat) (C : CallC) (b c d : SV) (a : Heap) : Rs :=
 (o.cond d
 (some (.tuple [(.int .i64 0), (.bool false)], a))
 (o.lfld 0 b fun e =>
 o.lloadp 1 false b e fun f =>
 (o.cond f
 (o.u_neg c fun g =>
 o.conv .i64 g fun h =>
 o.rest h fun i =>
 some (.tuple [i, (.bool true)], a))
 (o.conv .i64 c fun j =>
 o.rest j fun k =>
 some (.tuple [k, (.bool true)], a)))))
def f64 (o : Ops) (K : Nat) (C : CallC) (e : SV) (H : Heap) : Rs :=
 o.bbox e fun a =>
 o.lfld 1 (.box a) fun f =>
 o.lloadp 1 true (.box a) f fun g =>
 o.call (C 92 [g] H) fun d c =>
 o.ext 0 d fun b =>
 o.ext 1 d fun h =>
 o.u_not h fun i =>
 (o.guard i
 ((f64_j1 o K C (.box a) b (.bool true) c))
 (o.gtr b (.int .u64 9223372036854775808) fun j =>
 (o.guard j
 ((f64_j1 o K C (.box a) b (.bool true) c))
 (o.eql b (.int .u64 9223372036854775808) fun k =>
 (o.guard k
 (o.lfld 0 (.box a) fun l =>
 o.lloadp 1 false (.box a) l fun m =>
 o.u_not m fun n =>
 (f64_j1 o K C (.box a) b n c))
 ((f64_j1 o K C (.box a) b (.bool false) c))
 (none)))
 (none)))
 (none))
def f65_l3 (o : Ops) (K : Nat) (C : CallC) (h : SV -> SV -> SV -> SV -> Heap -> Rs) : SV -> SV -> SV -> SV -> SV -> SV -> Heap -> (SV -> SV -> SV -> SV -> SV -> SV -> Heap -> Rs) -> Rs := fun b c f d g e a i =>
 o.lss e c fun j =>
 (o.cond j
 (o.idx 1 b d fun k =>
 o.load 1 false k a fun l =>
 o.idx 1 l e fun m =>
 o.load 1 false m a fun n =>
 o.call (C 70 [n] a) fun p q =>
 o.hbuild 2 [.bool false, .slice nilSl] [(0, 2)] [p] q fun r s =>
 o.append 2 32 g r s fun t u =>
 o.add e (.int .i64 1) fun v =>
 i b c f d t v u)
 (o.hbuild 1 [.slice nilSl] [(0, 1)] [g] a fun w x =>
 o.append 1 24 f w x fun y z =>
 o.add d (.int .i64 1) fun A =>
 h b c y A z))
def f65_l1 (o : Ops) (K : Nat) (C : CallC) : SV -> SV -> SV -> SV -> Heap -> (SV -> SV -> SV -> SV -> Heap -> Rs) -> Rs := fun e a b c d f =>
 o.lss c a fun g =>
 (o.cond g
 ((o.loop6 (f65_l3 o K C f) K e a b c (.slice nilSl) (.int .i64 0) d))
 (o.rest b fun h =>
 some (h, d)))
def f65 (o : Ops) (K : Nat) (C : CallC) (a b : SV) (H : Heap) : Rs :=
 (o.loop4 (f65_l1 o K C) K a b (.slice nilSl) (.int .i64 0) H)
def f66_l2 (o : Ops) (K : Nat) (C : CallC) : SV -> SV -> Heap -> (SV -> SV -> Heap -> Rs) -> Rs := fun a b c d =>
 o.gtr b (.int .u32 0) fun e =>
 (o.cond e
 (o.add a (.int .i64 1) fun f =>
 o.quo b (.int .u32 2) fun g =>
 d f g c)
 (o.rest a fun h =>
 some (h, c)))
def f66 (o : Ops) (K : Nat) (C : CallC) (a : SV) (H : Heap) : Rs :=
 o.len a fun b =>
 o.eql b (.int .i64 0) fun c =>
 (o.cond c
 (some ((.int .i64 0), H))
 (o.len a fun d =>
 o.sub d (.int .i64 1) fun e =>
 o.mul (.int .i64 16) e fun f =>
 o.len a fun g =>
 o.sub g (.int .i64 1) fun h =>
 o.idx 1 a h fun i =>
 o.load 1 false i H fun j =>
 (o.loop2 (f66_l2 o K C) K f j H)))
def f67_l1 (o : Ops) (K : Nat) (C : CallC) : SV -> SV -> Heap -> (SV -> SV -> Heap -> Rs) -> Rs := fun a b c d =>
 o.gtr a (.int .u64 0) fun e =>
 (o.cond e
 (o.rem a (.int .u64 65536) fun f =>
 o.conv .u32 f fun g =>
 o.hbuild 1 [.int .u32 0] [(0, 1)] [g] c fun h i =>
 o.append 1 4 b h i fun j k =>
 o.quo a (.int .u64 65536) fun l =>
 d l j k)
 (o.rest b fun m =>
 some (m, c)))
def f67 (o : Ops) (K : Nat) (C : CallC) (a : SV) (H : Heap) : Rs :=
 (o.loop2 (f67_l1 o K C) K a (.slice nilSl) H)
def f68_j13 (o : Ops) (K : Nat) (C : CallC) (a : SV -> SV -> SV -> SV -> SV -> SV -> SV -> Heap -> Rs) (b c d e f g h : SV) (i : Heap) : Rs :=
 o.add h (.int .i64 1) fun j =>
 a b c d e f g j i
def f68_l18 (o : Ops) (K : Nat) (C : CallC) (r : SV -> SV -> SV -> SV -> SV -> SV -> SV -> SV -> Heap -> Rs) : SV -> SV -> SV -> SV -> SV -> SV -> SV -> SV -> SV -> Heap -> (SV -> SV -> SV -> SV -> SV -> SV -> SV -> SV -> SV -> Heap -> Rs) -> Rs := fun m n a i p g d c e b s =>
 o.idx 1 a c fun t =>
 o.load 1 false t b fun u =>
 o.len u fun v =>
 o.lss e v fun w =>
 (o.cond w
 (o.idx 1 a g fun x =>
 o.load 1 false x b fun y =>
 o.idx 2 y d fun z =>
 o.load 2 true z b fun A =>
 o.idx 1 a c fun B =>
 o.load 1 false B b fun D =>
 o.idx 2 D e fun E =>
 o.load 2 true E b fun F =>
 o.call (C 71 [A, F] b) fun G f =>
 o.bstore 0 2 (.box [.bool false, .slice nilSl]) G fun I =>
 o.idx 1 a c fun J =>
 o.load 1 false J f fun L =>
 o.idx 2 L d fun M =>
 o.load 2 true M f fun N =>
 o.idx 1 a g fun P =>
 o.load 1 false P f fun Q =>
 o.idx 2 Q e fun S =>
 o.load 2 true S f fun T =>
 o.call (C 71 [N, T] f) fun U j =>
 o.bstore 0 2 (.box [.bool false, .slice nilSl]) U fun V =>
 o.idx 1 a c fun h =>
 o.load 1 false h j fun W =>
 o.lload 0 2 true (.box I) fun X =>
 o.lload 0 2 true (.box V) fun Y =>
 o.call (C 94 [Y] j) fun Z k =>
 o.call (C 72 [X, Z] k) fun aa l =>
 o.lload 0 2 true i fun ab =>
 o.call (C 93 [aa, ab] l) fun ac q =>
 o.idx 2 W e fun ad =>
 o.store 2 ad ac q fun ae =>
 (o.same h j k ((o.same h k l ((o.same h l q (o.add e (.int .i64 1) fun af =>
 s m n a i p g d c af ae)))))))
 (o.idx 1 a c fun ag =>
 o.load 1 false ag b fun ah =>
 o.build [.bool false, .slice nilSl] [] [] fun ai =>
 o.idx 2 ah d fun aj =>
 o.store 2 aj ai b fun ak =>
 o.add c (.int .i64 1) fun al =>
 r m n a i p g d al ak))
def f68_l16 (o : Ops) (K : Nat) (C : CallC) (j : SV -> SV -> SV -> SV -> SV -> SV -> SV -> Heap -> Rs) : SV -> SV -> SV -> SV -> SV -> SV -> SV -> SV -> Heap -> (SV -> SV -> SV -> SV -> SV -> SV -> SV -> SV -> Heap -> Rs) -> Rs := fun e f a g h d b i c k =>
 o.len a fun l =>
 o.lss i l fun m =>
 (o.cond m
 (o.add b (.int .i64 1) fun n =>
 (o.loop9 (f68_l18 o K C k) K e f a g h d b i n c))
 (o.idx 1 a d fun p =>
 o.load 1 false p c fun q =>
 o.idx 2 q b fun r =>
 o.load 2 true r c fun s =>
 o.bstore 0 2 g s fun t =>
 o.add d (.int .i64 1) fun u =>
 (f68_j13 o K C j e f a (.box t) h u b c)))
def f68_j15 (o : Ops) (K : Nat) (C : CallC) (b : SV -> SV -> SV -> SV -> SV -> SV -> SV -> Heap -> Rs) (c d e f g a h : SV) (i : Heap) : Rs :=
 o.add a (.int .i64 1) fun j =>
 (o.loop8 (f68_l16 o K C b) K c d e f g a h j i)
def f68_j9 (o : Ops) (K : Nat) (C : CallC) (j : SV -> SV -> SV -> SV -> SV -> SV -> SV -> Heap -> Rs) (k : SV -> SV -> SV -> SV -> SV -> SV -> SV -> SV -> Heap -> Rs) (e f a g h b i d l : SV) (c : Heap) : Rs :=
 (o.cond l
 (o.add d (.int .i64 1) fun m =>
 k e f a g h b i m c)
 (o.len a fun n =>
 o.eql d n fun p =>
 (o.cond p
 ((f68_j13 o K C j e f a g h b i c))
 (o.neq d b fun q =>
 (o.cond q
 (o.idx 1 a b fun r =>
 o.load 1 false r c fun s =>
 o.idx 1 a d fun t =>
 o.load 1 false t c fun u =>
 o.idx 1 a d fun v =>
 o.store 1 v s c fun w =>
 o.idx 1 a b fun x =>
 o.store 1 x u w fun y =>
 o.u_not h fun z =>
 (f68_j15 o K C j e f a g z b i y))
 ((f68_j15 o K C j e f a g h b i c)))))))
def f68_l8 (o : Ops) (K : Nat) (C : CallC) (e : SV -> SV -> SV -> SV -> SV -> SV -> SV -> Heap -> Rs) : SV -> SV -> SV -> SV -> SV -> SV -> SV -> SV -> Heap -> (SV -> SV -> SV -> SV -> SV -> SV -> SV -> SV -> Heap -> Rs) -> Rs := fun f g a h i j d b c k =>
 o.len a fun l =>
 o.lss b l fun m =>
 (o.guard m
 (o.idx 1 a b fun n =>
 o.load 1 false n c fun p =>
 o.idx 2 p d fun q =>
 o.fld 1 q fun r =>
 o.load 1 false r c fun s =>
 o.len s fun t =>
 o.eql t (.int .i64 0) fun u =>
 (f68_j9 o K C e k f g a h i j d b u c))
 ((f68_j9 o K C e k f g a h i j d b (.bool false) c))
 (none))
def f68_j6 (o : Ops) (K : Nat) (C : CallC) (g : SV -> SV -> SV -> SV -> SV -> SV -> SV -> Heap -> Rs) (h b e d f a i j : SV) (c : Heap) : Rs :=
 (o.cond j
 ((o.loop8 (f68_l8 o K C g) K h b e d f a i a c))
 (o.len e fun k =>
 o.lss a k fun l =>
 (o.cond l
 (o.build [.bool false, .slice nilSl] [] [] fun m =>
 o.bstore 0 2 b m fun n =>
 o.rest a fun p =>
 o.resc 2 true (.box n) fun q =>
 some (.tuple [p, q], c))
 ((o.cond f
 (o.lload 0 2 true d fun r =>
 o.call (C 94 [r] c) fun s t =>
 o.bstore 0 2 b s fun u =>
 o.rest a fun v =>
 o.resc 2 true (.box u) fun w =>
 some (.tuple [v, w], t))
 (o.lload 0 2 true d fun x =>
 o.bstore 0 2 b x fun y =>
 o.rest a fun z =>
 o.resc 2 true (.box y) fun A =>
 some (.tuple [z, A], c)))))))
def f68_l5 (o : Ops) (K : Nat) (C : CallC) : SV -> SV -> SV -> SV -> SV -> SV -> SV -> Heap -> (SV -> SV -> SV -> SV -> SV -> SV -> SV -> Heap -> Rs) -> Rs := fun a e b f g c d j h =>
 o.call (C 37 [a] j) fun k i =>
 o.lss d k fun l =>
 (o.guard l
 (o.len b fun m =>
 o.lss c m fun n =>
 (f68_j6 o K C h a e b f g c d n i))
 ((f68_j6 o K C h a e b f g c d (.bool false) i))
 (none))
def f68_l1 (o : Ops) (K : Nat) (C : CallC) : SV -> SV -> SV -> SV -> Heap -> (SV -> SV -> SV -> SV -> Heap -> Rs) -> Rs := fun a c d b e g =>
 o.len a fun h =>
 o.lss b h fun i =>
 (o.cond i
 (o.hbuild 2 [] [] [] e fun j f =>
 o.idx 1 a b fun k =>
 o.load 1 false k f fun l =>
 o.append 2 32 j l f fun m n =>
 o.hbuild 1 [.slice nilSl] [(0, 1)] [m] n fun p q =>
 o.append 1 24 d p q fun r s =>
 o.add b (.int .i64 1) fun t =>
 g a c r t s)
 (o.call (C 70 [(.int .i64 1)] e) fun u v =>
 o.bstore 0 2 (.box [.bool false, .slice nilSl]) u fun w =>
 (o.loop7 (f68_l5 o K C) K a c d (.box w) (.bool false) (.int .i64 0) (.int .i64 0) v)))
def f68 (o : Ops) (K : Nat) (C : CallC) (a : SV) (H : Heap) : Rs :=
 (o.loop4 (f68_l1 o K C) K a (.box [.bool false, .slice nilSl]) (.slice nilSl) (.int .i64 0) H)
def f69 (o : Ops) (K : Nat) (C : CallC) (e : SV) (H : Heap) : Rs :=
 o.bbox e fun a =>
 o.lfld 1 (.box a) fun f =>
 o.lloadp 1 false (.box a) f fun g =>
 o.call (C 95 [g] H) fun d c =>
 o.ext 0 d fun b =>
 o.ext 1 d fun h =>
 o.u_not h fun i =>
 (o.cond i
 (some (.tuple [(.int .i64 0), (.bool false)], c))
 (o.lfld 0 (.box a) fun j =>
 o.lloadp 1 false (.box a) j fun k =>
 (o.cond k
 (o.u_neg b fun l =>
 o.conv .i64 l fun m =>
 o.leq b (.int .u64 9223372036854775808) fun n =>
 o.rest m fun p =>
 o.rest n fun q =>
 some (.tuple [p, q], c))
 (o.conv .i64 b fun r =>
 o.lss b (.int .u64 9223372036854775808) fun s =>
 o.rest r fun t =>
 o.rest s fun u =>
 some (.tuple [t, u], c)))))
def f70_j1 (o : Ops) (K : Nat) (C : CallC) (a b c : SV) (d : Heap) : Rs :=
 o.lss a (.int .i64 0) fun e =>
 o.call (C 67 [c] d) fun f g =>
 o.build [.bool false, .slice nilSl] [(0, 1), (1, 1)] [e, f] fun h =>
 o.bstore 0 2 b h fun i =>
 o.resc 2 true (.box i) fun j =>
 some (j, g)
def f70 (o : Ops) (K : Nat) (C : CallC) (a : SV) (H : Heap) : Rs :=
 o.conv .u64 a fun b =>
 o.lss a (.int .i64 0) fun c =>
 (o.cond c
 (o.u_neg b fun d =>
 (f70_j1 o K C a (.box [.bool false, .slice nilSl]) d H))
 ((f70_j1 o K C a (.box [.bool false, .slice nilSl]) b H)))
def f71_j1 (o : Ops) (K : Nat) (C : CallC) (a : SV) (b : Heap) : Rs :=
 o.resc 2 true a fun c =>
 some (c, b)
def f71 (o : Ops) (K : Nat) (C : CallC) (e f : SV) (H : Heap) : Rs :=
 o.bbox e fun a =>
 o.bbox f fun b =>
 o.lfld 1 (.box a) fun g =>
 o.lloadp 1 false (.box a) g fun h =>
 o.lfld 1 (.box b) fun i =>
 o.lloadp 1 false (.box b) i fun j =>
 o.call (C 81 [h, j] H) fun c d =>
 o.lfld 0 (.box a) fun k =>
 o.lloadp 1 false (.box a) k fun l =>
 o.lfld 0 (.box b) fun m =>
 o.lloadp 1 false (.box b) m fun n =>
 o.b_neq l n fun p =>
 (o.guard p
 (o.len c fun q =>
 o.gtr q (.int .i64 0) fun r =>
 o.build [.bool false, .slice nilSl] [(0, 1), (1, 1)] [r, c] fun s =>
 o.bstore 0 2 (.box [.bool false, .slice nilSl]) s fun t =>
 (f71_j1 o K C (.box t) d))
 (o.build [.bool false, .slice nilSl] [(0, 1), (1, 1)] [(.bool false), c] fun u =>
 o.bstore 0 2 (.box [.bool false, .slice nilSl]) u fun v =>
 (f71_j1 o K C (.box v) d))
 (none))
def f72_j2 (o : Ops) (K : Nat) (C : CallC) (a : SV) (b : Heap) : Rs :=
 o.resc 2 true a fun c =>
 some (c, b)
def f72 (o : Ops) (K : Nat) (C : CallC) (f g : SV) (H : Heap) : Rs :=
 o.bbox f fun a =>
 o.bbox g fun b =>
 o.lfld 0 (.box a) fun h =>
 o.lloadp 1 false (.box a) h fun i =>
 o.lfld 0 (.box b) fun j =>
 o.lloadp 1 false (.box b) j fun k =>
 o.b_eql i k fun l =>
 (o.cond l
 (o.lfld 0 (.box a) fun m =>
 o.lloadp 1 false (.box a) m fun n =>
 o.lfld 1 (.box a) fun p =>
 o.lloadp 1 false (.box a) p fun q =>
 o.lfld 1 (.box b) fun r =>
 o.lloadp 1 false (.box b) r fun s =>
 o.call (C 80 [q, s] H) fun t u =>
 o.build [.bool false, .slice nilSl] [(0, 1), (1, 1)] [n, t] fun v =>
 o.bstore 0 2 (.box [.bool false, .slice nilSl]) v fun w =>
 o.resc 2 true (.box w) fun x =>
 some (x, u))
 (o.lfld 1 (.box a) fun y =>
 o.lloadp 1 false (.box a) y fun z =>
 o.lfld 1 (.box b) fun A =>
 o.lloadp 1 false (.box b) A fun B =>
 o.call (C 96 [z, B] H) fun D d =>
 o.geq D (.int .i64 0) fun E =>
 (o.cond E
 (o.lfld 1 (.box a) fun F =>
 o.lloadp 1 false (.box a) F fun G =>
 o.lfld 1 (.box b) fun I =>
 o.lloadp 1 false (.box b) I fun J =>
 o.call (C 97 [G, J] d) fun c e =>
 o.lfld 0 (.box a) fun L =>
 o.lloadp 1 false (.box a) L fun M =>
 (o.guard M
 (o.len c fun N =>
 o.gtr N (.int .i64 0) fun P =>
 o.build [.bool false, .slice nilSl] [(0, 1), (1, 1)] [P, c] fun Q =>
 o.bstore 0 2 (.box [.bool false, .slice nilSl]) Q fun S =>
 (f72_j2 o K C (.box S) e))
 (o.build [.bool false, .slice nilSl] [(0, 1), (1, 1)] [(.bool false), c] fun T =>
 o.bstore 0 2 (.box [.bool false, .slice nilSl]) T fun U =>
 (f72_j2 o K C (.box U) e))
 (none)))
 (o.lfld 0 (.box b) fun V =>
 o.lloadp 1 false (.box b) V fun W =>
 o.lfld 1 (.box b) fun X =>
 o.lloadp 1 false (.box b) X fun Y =>
 o.lfld 1 (.box a) fun Z =>
 o.lloadp 1 false (.box a) Z fun aa =>
 o.call (C 97 [Y, aa] d) fun ab ac =>
 o.build [.bool false, .slice nilSl] [(0, 1), (1, 1)] [W, ab] fun ad =>
 o.bstore 0 2 (.box [.bool false, .slice nilSl]) ad fun ae =>
 o.resc 2 true (.box ae) fun af =>
 some (af, ac)))))
def f73_j1 (o : Ops) (K : Nat) (C : CallC) (f g h i : SV) (b : Heap) : Rs :=
 (o.cond i
 (some (.tuple [(.int .i64 0), (.int .i64 5)], b))
 (o.build [.bool false, .slice nilSl] [] [] fun j =>
 o.alloc [.bool false, .slice nilSl] b fun a k =>
 o.store 2 a j k fun l =>
 o.mkfn 98 0 [g, h, a] fun m =>
 o.call (C 33 [f, m] l) fun t c =>
 o.load 2 true a c fun n =>
 o.call (C 64 [n] c) fun d e =>
 o.ext 0 d fun p =>
 o.ext 1 d fun q =>
 o.u_not q fun r =>
 (o.cond r
 (some (.tuple [(.int .i64 0), (.int .i64 3)], e))
 (o.rest p fun s =>
 some (.tuple [s, (.int .i64 0)], e)))))
def f73 (o : Ops) (K : Nat) (C : CallC) (a e f : SV) (H : Heap) : Rs :=
 o.box e H fun c g =>
 o.box f g fun d b =>
 o.load 1 false c b fun h =>
 o.len h fun i =>
 o.len a fun j =>
 o.neq i j fun k =>
 (o.guard k
 ((f73_j1 o K C a c d (.bool true) b))
 (o.load 1 false d b fun l =>
 o.len l fun m =>
 o.len a fun n =>
 o.neq m n fun p =>
 (f73_j1 o K C a c d p b))
 (none))
def f74 (o : Ops) (K : Nat) (C : CallC) (a : SV) (H : Heap) : Rs :=
 o.conv .u32 a fun b =>
 o.shr a (.int .u64 32) fun c =>
 o.conv .u32 c fun d =>
 o.hbuild 1 [.int .u32 0, .int .u32 0] [(0, 1), (1, 1)] [b, d] H fun e f =>
 o.call (C 48 [e] f) fun g h =>
 o.bstore 0 1 (.box [.slice nilSl]) g fun i =>
 o.resc 1 true (.box i) fun j =>
 some (j, h)
def f75_l3 (o : Ops) (K : Nat) (C : CallC) (k : SV -> SV -> SV -> SV -> SV -> Heap -> Rs) : SV -> SV -> SV -> SV -> SV -> SV -> SV -> SV -> SV -> Heap -> (SV -> SV -> SV -> SV -> SV -> SV -> SV -> SV -> SV -> Heap -> Rs) -> Rs := fun d b e f c g h i a j l =>
 o.lss a i fun m =>
 (o.cond m
 (o.callv C [b, f, a] j fun n p =>
 o.idx 2 c a fun q =>
 o.store 2 q n p fun r =>
 o.add a (.int .i64 1) fun s =>
 l d b e f c g h i s r)
 (o.hbuild 1 [.slice nilSl] [(0, 1)] [c] j fun t u =>
 o.append 1 24 e t u fun v w =>
 o.add h (.int .i64 1) fun x =>
 k d b v g x w))
def f75_l1 (o : Ops) (K : Nat) (C : CallC) : SV -> SV -> SV -> SV -> SV -> Heap -> (SV -> SV -> SV -> SV -> SV -> Heap -> Rs) -> Rs := fun a g c d b e h =>
 o.lss b d fun i =>
 (o.cond i
 (o.make 2 32 [.bool false, .slice nilSl] a a e fun f j =>
 o.len f fun k =>
 (o.loop9 (f75_l3 o K C h) K a g c b f d b k (.int .i64 0) j))
 (o.rest c fun l =>
 some (l, e)))
def f75 (o : Ops) (K : Nat) (C : CallC) (a b : SV) (H : Heap) : Rs :=
 (o.loop5 (f75_l1 o K C) K a b (.slice nilSl) a (.int .i64 0) H)
def f76 (o : Ops) (K : Nat) (C : CallC) (a b c : SV) (H : Heap) : Rs :=
 o.load 1 false c H fun d =>
 o.idx 1 d a fun e =>
 o.load 1 false e H fun f =>
 o.idx 1 f b fun g =>
 o.load 1 false g H fun h =>
 o.call (C 46 [h] H) fun i j =>
 o.bstore 0 2 (.box [.bool false, .slice nilSl]) i fun k =>
 o.resc 2 true (.box k) fun l =>
 some (l, j)
def f77 (o : Ops) (K : Nat) (C : CallC) (b c : SV) (H : Heap) : Rs :=
 o.bbox b fun d =>
 o.bbox c fun e =>
 o.lload 0 2 true (.box d) fun f =>
 o.lload 0 2 true (.box e) fun g =>
 o.call (C 85 [g] H) fun h i =>
 o.call (C 62 [f, h] i) fun a j =>
 o.ext 0 a fun k =>
 o.ext 1 a fun l =>
 o.bstore 0 2 (.box [.bool false, .slice nilSl]) k fun m =>
 o.resc 2 true (.box m) fun n =>
 o.rest l fun p =>
 some (.tuple [n, p], j)
def f78 (o : Ops) (K : Nat) (C : CallC) (e f : SV) (H : Heap) : Rs :=
 o.bbox e fun g =>
 o.bbox f fun h =>
 o.lload 0 2 true (.box g) fun i =>
 o.lload 0 2 true (.box h) fun j =>
 o.call (C 99 [i, j] H) fun a b =>
 o.ext 0 a fun k =>
 o.ext 1 a fun l =>
 o.ext 2 a fun c =>
 o.bstore 0 2 (.box [.bool false, .slice nilSl]) k fun m =>
 o.bstore 0 2 (.box [.bool false, .slice nilSl]) l fun n =>
 o.neq c (.int .i64 0) fun p =>
 (o.cond p
 (o.build [.bool false, .slice nilSl] [] [] fun q =>
 o.bstore 0 2 (.box [.bool false, .slice nilSl]) q fun r =>
 o.resc 2 true (.box r) fun s =>
 o.rest c fun t =>
 some (.tuple [s, t], b))
 (o.lload 0 2 true (.box n) fun u =>
 o.call (C 29 [u] b) fun v d =>
 o.neq v (.int .i64 0) fun w =>
 (o.cond w
 (o.build [.bool false, .slice nilSl] [] [] fun x =>
 o.bstore 0 2 (.box [.bool false, .slice nilSl]) x fun y =>
 o.resc 2 true (.box y) fun z =>
 some (.tuple [z, (.int .i64 2)], d))
 (o.lload 0 2 true (.box m) fun A =>
 o.bstore 0 2 (.box [.bool false, .slice nilSl]) A fun B =>
 o.resc 2 true (.box B) fun D =>
 some (.tuple [D, (.int .i64 0)], d)))))
def f79 (o : Ops) (K : Nat) (C : CallC) (c : SV) (H : Heap) : Rs :=
 o.bbox c fun a =>
 o.lload 0 1 true (.box a) fun d =>
 o.call (C 58 [d] H) fun e b =>
 o.gtr e (.int .i64 4096) fun f =>
 (o.cond f
 (o.build [.slice nilSl] [] [] fun g =>
 o.bstore 0 1 (.box [.slice nilSl]) g fun h =>
 o.resc 1 true (.box h) fun i =>
 some (.tuple [i, (.int .i64 3)], b))
 (o.lload 0 1 true (.box a) fun j =>
 o.bstore 0 1 (.box [.slice nilSl]) j fun k =>
 o.resc 1 true (.box k) fun l =>
 some (.tuple [l, (.int .i64 0)], b)))
def f80_j5 (o : Ops) (K : Nat) (C : CallC) (b : SV -> SV -> SV -> SV -> SV -> Heap -> Rs) (c d e f a : SV) (g : Heap) : Rs :=
 o.rem a (.int .u32 65536) fun h =>
 o.hbuild 1 [.int .u32 0] [(0, 1)] [h] g fun i j =>
 o.append 1 4 e i j fun k l =>
 o.quo a (.int .u32 65536) fun m =>
 o.add f (.int .i64 1) fun n =>
 b c d k m n l
def f80_j4 (o : Ops) (K : Nat) (C : CallC) (d : SV -> SV -> SV -> SV -> SV -> Heap -> Rs) (e a f b g : SV) (c : Heap) : Rs :=
 o.len a fun h =>
 o.lss b h fun i =>
 (o.cond i
 (o.idx 1 a b fun j =>
 o.load 1 false j c fun k =>
 o.add g k fun l =>
 (f80_j5 o K C d e a f b l c))
 ((f80_j5 o K C d e a f b g c)))
def f80_j2 (o : Ops) (K : Nat) (C : CallC) (e : SV -> SV -> SV -> SV -> SV -> Heap -> Rs) (a f d g b h : SV) (c : Heap) : Rs :=
 (o.cond h
 (o.len a fun i =>
 o.lss b i fun j =>
 (o.cond j
 (o.idx 1 a b fun k =>
 o.load 1 false k c fun l =>
 o.add g l fun m =>
 (f80_j4 o K C e a f d b m c))
 ((f80_j4 o K C e a f d b g c))))
 (o.call (C 100 [d] c) fun n p =>
 o.rest n fun q =>
 some (q, p)))
def f80_l1 (o : Ops) (K : Nat) (C : CallC) : SV -> SV -> SV -> SV -> SV -> Heap -> (SV -> SV -> SV -> SV -> SV -> Heap -> Rs) -> Rs := fun b c e d a f g =>
 o.len b fun h =>
 o.lss a h fun i =>
 (o.guard i
 ((f80_j2 o K C g b c e d a (.bool true) f))
 (o.len c fun j =>
 o.lss a j fun k =>
 (o.guard k
 ((f80_j2 o K C g b c e d a (.bool true) f))
 (o.gtr d (.int .u32 0) fun l =>
 (f80_j2 o K C g b c e d a l f))
 (none)))
 (none))
def f80 (o : Ops) (K : Nat) (C : CallC) (a b : SV) (H : Heap) : Rs :=
 (o.loop5 (f80_l1 o K C) K a b (.slice nilSl) (.int .u32 0) (.int .i64 0) H)
def f81_j6 (o : Ops) (K : Nat) (C : CallC) (e : SV -> SV -> SV -> SV -> SV -> SV -> Heap -> Rs) (f g a b c d : SV) (h : Heap) : Rs :=
 o.add b c fun i =>
 o.rem d (.int .u64 65536) fun j =>
 o.conv .u32 j fun k =>
 o.idx 1 a i fun l =>
 o.store 1 l k h fun m =>
 o.quo d (.int .u64 65536) fun n =>
 o.add c (.int .i64 1) fun p =>
 e f g a b n p m
def f81_j4 (o : Ops) (K : Nat) (C : CallC) (i : SV -> SV -> SV -> SV -> Heap -> Rs) (g : SV -> SV -> SV -> SV -> SV -> SV -> Heap -> Rs) (e b f c j d k : SV) (a : Heap) : Rs :=
 (o.cond k
 (o.add c d fun l =>
 o.idx 1 f l fun m =>
 o.load 1 false m a fun n =>
 o.conv .u64 n fun p =>
 o.add p j fun h =>
 o.len b fun q =>
 o.lss d q fun r =>
 (o.cond r
 (o.idx 1 e c fun s =>
 o.load 1 false s a fun t =>
 o.conv .u64 t fun u =>
 o.idx 1 b d fun v =>
 o.load 1 false v a fun w =>
 o.conv .u64 w fun x =>
 o.mul u x fun y =>
 o.add h y fun z =>
 (f81_j6 o K C g e b f c d z a))
 ((f81_j6 o K C g e b f c d h a))))
 (o.add c (.int .i64 1) fun A =>
 i e b f A a))
def f81_l3 (o : Ops) (K : Nat) (C : CallC) (d : SV -> SV -> SV -> SV -> Heap -> Rs) : SV -> SV -> SV -> SV -> SV -> SV -> Heap -> (SV -> SV -> SV -> SV -> SV -> SV -> Heap -> Rs) -> Rs := fun e a f g b c h i =>
 o.len a fun j =>
 o.lss c j fun k =>
 (o.guard k
 ((f81_j4 o K C d i e a f g b c (.bool true) h))
 (o.gtr b (.int .u64 0) fun l =>
 (f81_j4 o K C d i e a f g b c l h))
 (none))
def f81_l1 (o : Ops) (K : Nat) (C : CallC) : SV -> SV -> SV -> SV -> Heap -> (SV -> SV -> SV -> SV -> Heap -> Rs) -> Rs := fun a e b c d f =>
 o.len a fun g =>
 o.lss c g fun h =>
 (o.cond h
 ((o.loop6 (f81_l3 o K C f) K a e b c (.int .u64 0) (.int .i64 0) d))
 (o.call (C 100 [b] d) fun i j =>
 o.rest i fun k =>
 some (k, j)))
def f81 (o : Ops) (K : Nat) (C : CallC) (a b : SV) (H : Heap) : Rs :=
 o.len a fun d =>
 o.len b fun e =>
 o.add d e fun c =>
 o.make 1 4 [.int .u32 0] c c H fun f g =>
 (o.loop4 (f81_l1 o K C) K a b f (.int .i64 0) g)
def f82 (o : Ops) (K : Nat) (C : CallC) (a : SV) (H : Heap) : Rs :=
 o.call (C 66 [a] H) fun b c =>
 o.gtr b (.int .i64 4096) fun d =>
 o.rest d fun e =>
 some (e, c)
def f83_l3 (o : Ops) (K : Nat) (C : CallC) (j : SV -> SV -> SV -> SV -> SV -> Heap -> Rs) : SV -> SV -> SV -> SV -> SV -> SV -> SV -> SV -> Heap -> (SV -> SV -> SV -> SV -> SV -> SV -> SV -> SV -> Heap -> Rs) -> Rs := fun c d e f g h i a b k =>
 o.lss a i fun l =>
 (o.cond l
 (o.idx 2 h a fun m =>
 o.load 2 true m b fun n =>
 o.bstore 0 2 (.box [.bool false, .slice nilSl]) n fun p =>
 o.lload 0 2 true (.box p) fun q =>
 o.call (C 42 [q] b) fun r s =>
 o.call (C 58 [r] s) fun t u =>
 o.max [d, t] fun v =>
 o.add a (.int .i64 1) fun w =>
 k c v e f g h i w u)
 (o.add g (.int .i64 1) fun x =>
 j c d e f x b))
def f83_l1 (o : Ops) (K : Nat) (C : CallC) : SV -> SV -> SV -> SV -> SV -> Heap -> (SV -> SV -> SV -> SV -> SV -> Heap -> Rs) -> Rs := fun c d e f a b j =>
 o.lss a f fun k =>
 (o.cond k
 (o.idx 1 e a fun l =>
 o.load 1 false l b fun g =>
 o.len g fun m =>
 (o.loop8 (f83_l3 o K C j) K c d e f a g m (.int .i64 0) b))
 (o.lload 0 1 true c fun n =>
 o.call (C 27 [n] b) fun h p =>
 o.ext 0 h fun q =>
 o.ext 1 h fun r =>
 o.min [q, r] fun i =>
 o.mul (.int .i64 2) i fun s =>
 o.conv .u64 i fun t =>
 o.call (C 101 [t] p) fun u v =>
 o.add d u fun w =>
 o.mul s w fun x =>
 o.gtr x (.int .i64 4096) fun y =>
 o.rest y fun z =>
 some (z, v)))
def f83 (o : Ops) (K : Nat) (C : CallC) (c : SV) (H : Heap) : Rs :=
 o.bbox c fun a =>
 o.lfld 0 (.box a) fun d =>
 o.lloadp 1 false (.box a) d fun b =>
 o.len b fun e =>
 (o.loop5 (f83_l1 o K C) K (.box a) (.int .i64 0) b e (.int .i64 0) H)
def f84_j1 (o : Ops) (K : Nat) (C : CallC) (d e b c f : SV) (a : Heap) : Rs :=
 (o.cond f
 (o.build [.bool false, .slice nilSl] [] [] fun g =>
 o.bstore 0 2 c g fun h =>
 o.resc 2 true (.box h) fun i =>
 some (i, a))
 (o.lfld 0 b fun j =>
 o.lloadp 1 false b j fun k =>
 o.idx 1 k d fun l =>
 o.load 1 false l a fun m =>
 o.idx 2 m e fun n =>
 o.load 2 true n a fun p =>
 o.bstore 0 2 c p fun q =>
 o.resc 2 true (.box q) fun r =>
 some (r, a)))
def f84 (o : Ops) (K : Nat) (C : CallC) (f a b : SV) (H : Heap) : Rs :=
 o.bbox f fun c =>
 o.lload 0 1 true (.box c) fun g =>
 o.call (C 27 [g] H) fun e d =>
 o.ext 0 e fun h =>
 o.ext 1 e fun i =>
 o.lss a (.int .i64 0) fun j =>
 (o.guard j
 ((f84_j1 o K C a b (.box c) (.box [.bool false, .slice nilSl]) (.bool true) d))
 (o.geq a h fun k =>
 (o.guard k
 ((f84_j1 o K C a b (.box c) (.box [.bool false, .slice nilSl]) (.bool true) d))
 (o.lss b (.int .i64 0) fun l =>
 (o.guard l
 ((f84_j1 o K C a b (.box c) (.box [.bool false, .slice nilSl]) (.bool true) d))
 (o.geq b i fun m =>
 (f84_j1 o K C a b (.box c) (.box [.bool false, .slice nilSl]) m d))
 (none)))
 (none)))
 (none))
def f85 (o : Ops) (K : Nat) (C : CallC) (b : SV) (H : Heap) : Rs :=
 o.bbox b fun a =>
 o.lfld 0 (.box a) fun c =>
 o.lloadp 1 false (.box a) c fun d =>
 o.u_not d fun e =>
 o.lfld 1 (.box a) fun f =>
 o.lloadp 1 true (.box a) f fun g =>
 o.call (C 53 [e, g] H) fun h i =>
 o.bstore 0 2 (.box [.bool false, .slice nilSl]) h fun j =>
 o.resc 2 true (.box j) fun k =>
 some (k, i)
def f86_j2 (o : Ops) (K : Nat) (C : CallC) (a b : SV) (c : Heap) : Rs :=
 o.conv .u8 a fun d =>
 o.stridx (.str [0, 1, 2, 2, 3, 3, 3, 3, 4, 4, 4, 4, 4, 4, 4, 4, 5, 5, 5, 5, 5, 5, 5, 5, 5, 5, 5, 5, 5, 5, 5, 5, 6, 6, 6, 6, 6, 6, 6, 6, 6, 6, 6, 6, 6, 6, 6, 6, 6, 6, 6, 6, 6, 6, 6, 6, 6, 6, 6, 6, 6, 6, 6, 6, 7, 7, 7, 7, 7, 7, 7, 7, 7, 7, 7, 7, 7, 7, 7, 7, 7, 7, 7, 7, 7, 7, 7, 7, 7, 7, 7, 7, 7, 7, 7, 7, 7, 7, 7, 7, 7, 7, 7, 7, 7, 7, 7, 7, 7, 7, 7, 7, 7, 7, 7, 7, 7, 7, 7, 7, 7, 7, 7, 7, 7, 7, 7, 7, 8, 8, 8, 8, 8, 8, 8, 8, 8, 8, 8, 8, 8, 8, 8, 8, 8, 8, 8, 8, 8, 8, 8, 8, 8, 8, 8, 8, 8, 8, 8, 8, 8, 8, 8, 8, 8, 8, 8, 8, 8, 8, 8, 8, 8, 8, 8, 8, 8, 8, 8, 8, 8, 8, 8, 8, 8, 8, 8, 8, 8, 8, 8, 8, 8, 8, 8, 8, 8, 8, 8, 8, 8, 8, 8, 8, 8, 8, 8, 8, 8, 8, 8, 8, 8, 8, 8, 8, 8, 8, 8, 8, 8, 8, 8, 8, 8, 8, 8, 8, 8, 8, 8, 8, 8, 8, 8, 8, 8, 8, 8, 8, 8, 8, 8, 8, 8, 8, 8, 8, 8, 8, 8, 8, 8, 8, 8, 8]) d fun e =>
 o.conv .i64 e fun f =>
 o.add b f fun g =>
 o.rest g fun h =>
 some (h, c)
def f86_j1 (o : Ops) (K : Nat) (C : CallC) (a b : SV) (c : Heap) : Rs :=
 o.geq a (.int .u32 256) fun d =>
 (o.cond d
 (o.shr a (.int .u64 8) fun e =>
 o.add b (.int .i64 8) fun f =>
 (f86_j2 o K C e f c))
 ((f86_j2 o K C a b c)))
def f86 (o : Ops) (K : Nat) (C : CallC) (a : SV) (H : Heap) : Rs :=
 o.geq a (.int .u32 65536) fun b =>
 (o.cond b
 (o.shr a (.int .u64 16) fun c =>
 (f86_j1 o K C c (.int .i64 16) H))
 ((f86_j1 o K C a (.int .i64 0) H)))
def f87 (o : Ops) (K : Nat) (C : CallC) (c d a e : SV) (H : Heap) : Rs :=
 o.load 1 false a H fun f =>
 o.neq f (.int .i64 0) fun g =>
 (o.cond g
 (o.build [.bool false, .slice nilSl] [] [] fun h =>
 o.bstore 0 2 (.box [.bool false, .slice nilSl]) h fun i =>
 o.resc 2 true (.box i) fun j =>
 some (j, H))
 (o.load 1 false e H fun k =>
 o.callv C [k, c, d] H fun b l =>
 o.ext 0 b fun m =>
 o.ext 1 b fun n =>
 o.bstore 0 2 (.box [.bool false, .slice nilSl]) m fun p =>
 o.store 1 a n l fun q =>
 o.lload 0 2 true (.box p) fun r =>
 o.bstore 0 2 (.box [.bool false, .slice nilSl]) r fun s =>
 o.resc 2 true (.box s) fun t =>
 some (t, q)))
def f88 (o : Ops) (K : Nat) (C : CallC) (e f : SV) (H : Heap) : Rs :=
 o.bbox e fun a =>
 o.bbox f fun b =>
 o.lload 0 1 true (.box a) fun g =>
 o.call (C 58 [g] H) fun h i =>
 o.lload 0 1 true (.box b) fun j =>
 o.call (C 58 [j] i) fun k c =>
 o.add h k fun l =>
 o.gtr l (.int .i64 4097) fun m =>
 (o.cond m
 (o.build [.slice nilSl] [] [] fun n =>
 o.bstore 0 1 (.box [.slice nilSl]) n fun p =>
 o.resc 1 true (.box p) fun q =>
 some (.tuple [q, (.int .i64 3)], c))
 (o.lload 0 1 true (.box a) fun r =>
 o.lload 0 1 true (.box b) fun s =>
 o.call (C 102 [r, s] c) fun t u =>
 o.call (C 79 [t] u) fun d v =>
 o.ext 0 d fun w =>
 o.ext 1 d fun x =>
 o.bstore 0 1 (.box [.slice nilSl]) w fun y =>
 o.resc 1 true (.box y) fun z =>
 o.rest x fun A =>
 some (.tuple [z, A], v)))
def f89_j4 (o : Ops) (K : Nat) (C : CallC) (c : SV -> SV -> SV -> SV -> SV -> SV -> Heap -> Rs) (d e a b f g h : SV) (i : Heap) : Rs :=
 o.conv .u32 b fun j =>
 o.idx 1 a f fun k =>
 o.store 1 k j i fun l =>
 o.shr b (.int .u64 32) fun m =>
 o.add h (.int .i64 1) fun n =>
 c d e a m g n l
def f89_l2 (o : Ops) (K : Nat) (C : CallC) : SV -> SV -> SV -> SV -> SV -> SV -> Heap -> (SV -> SV -> SV -> SV -> SV -> SV -> Heap -> Rs) -> Rs := fun b e d j f a c g =>
 o.lss a f fun k =>
 (o.cond k
 (o.idx 1 d a fun l =>
 o.load 1 false l c fun m =>
 o.conv .u64 m fun n =>
 o.add j n fun h =>
 o.lfld 0 b fun p =>
 o.lloadp 1 false b p fun q =>
 o.len q fun r =>
 o.lss a r fun s =>
 (o.cond s
 (o.lfld 0 b fun t =>
 o.lloadp 1 false b t fun u =>
 o.idx 1 u a fun v =>
 o.load 1 false v c fun w =>
 o.conv .u64 w fun x =>
 o.add h x fun y =>
 (f89_j4 o K C g b e d y a f a c))
 ((f89_j4 o K C g b e d h a f a c))))
 (o.call (C 48 [d] c) fun z A =>
 o.call (C 79 [z] A) fun i B =>
 o.ext 0 i fun D =>
 o.ext 1 i fun E =>
 o.bstore 0 1 e D fun F =>
 o.resc 1 true (.box F) fun G =>
 o.rest E fun I =>
 some (.tuple [G, I], B)))
def f89_j1 (o : Ops) (K : Nat) (C : CallC) (a d e : SV) (f : Heap) : Rs :=
 o.lfld 0 a fun g =>
 o.lloadp 1 false a g fun h =>
 o.len h fun i =>
 o.add i (.int .i64 1) fun c =>
 o.make 1 4 [.int .u32 0] c c f fun b j =>
 o.lfld 0 a fun k =>
 o.lloadp 1 false a k fun l =>
 o.copy 1 b l j fun p m =>
 o.len b fun n =>
 (o.loop6 (f89_l2 o K C) K d e b (.int .u64 0) n (.int .i64 0) m)
def f89 (o : Ops) (K : Nat) (C : CallC) (c d : SV) (H : Heap) : Rs :=
 o.bbox c fun a =>
 o.bbox d fun b =>
 o.lfld 0 (.box a) fun e =>
 o.lloadp 1 false (.box a) e fun f =>
 o.len f fun g =>
 o.lfld 0 (.box b) fun h =>
 o.lloadp 1 false (.box b) h fun i =>
 o.len i fun j =>
 o.lss g j fun k =>
 (o.cond k
 (o.lload 0 1 true (.box b) fun l =>
 o.lload 0 1 true (.box a) fun m =>
 o.bstore 0 1 (.box a) l fun n =>
 o.bstore 0 1 (.box b) m fun p =>
 (f89_j1 o K C (.box n) (.box p) (.box [.slice nilSl]) H))
 ((f89_j1 o K C (.box a) (.box b) (.box [.slice nilSl]) H)))
def f90_l3 (o : Ops) (K : Nat) (C : CallC) : SV -> SV -> SV -> Heap -> (SV -> SV -> SV -> Heap -> Rs) -> Rs := fun c d b a e =>
 o.geq b (.int .i64 0) fun f =>
 (o.cond f
 (o.lfld 0 c fun g =>
 o.lloadp 1 false c g fun h =>
 o.idx 1 h b fun i =>
 o.load 1 false i a fun j =>
 o.lfld 0 d fun k =>
 o.lloadp 1 false d k fun l =>
 o.idx 1 l b fun m =>
 o.load 1 false m a fun n =>
 o.lss j n fun p =>
 (o.cond p
 (some ((.int .i64 (-1)), a))
 (o.lfld 0 c fun q =>
 o.lloadp 1 false c q fun r =>
 o.idx 1 r b fun s =>
 o.load 1 false s a fun t =>
 o.lfld 0 d fun u =>
 o.lloadp 1 false d u fun v =>
 o.idx 1 v b fun w =>
 o.load 1 false w a fun x =>
 o.gtr t x fun y =>
 (o.cond y
 (some ((.int .i64 1), a))
 (o.sub b (.int .i64 1) fun z =>
 e c d z a)))))
 (some ((.int .i64 0), a)))
def f90 (o : Ops) (K : Nat) (C : CallC) (c d : SV) (H : Heap) : Rs :=
 o.bbox c fun a =>
 o.bbox d fun b =>
 o.lfld 0 (.box a) fun e =>
 o.lloadp 1 false (.box a) e fun f =>
 o.len f fun g =>
 o.lfld 0 (.box b) fun h =>
 o.lloadp 1 false (.box b) h fun i =>
 o.len i fun j =>
 o.neq g j fun k =>
 (o.cond k
 (o.lfld 0 (.box a) fun l =>
 o.lloadp 1 false (.box a) l fun m =>
 o.len m fun n =>
 o.lfld 0 (.box b) fun p =>
 o.lloadp 1 false (.box b) p fun q =>
 o.len q fun r =>
 o.lss n r fun s =>
 (o.cond s
 (some ((.int .i64 (-1)), H))
 (some ((.int .i64 1), H))))
 (o.lfld 0 (.box a) fun t =>
 o.lloadp 1 false (.box a) t fun u =>
 o.len u fun v =>
 o.sub v (.int .i64 1) fun w =>
 (o.loop3 (f90_l3 o K C) K (.box a) (.box b) w H)))
def f91 (o : Ops) (K : Nat) (C : CallC) (f g : SV) (H : Heap) : Rs :=
 o.bbox f fun a =>
 o.bbox g fun b =>
 o.lload 0 1 true (.box a) fun h =>
 o.lload 0 1 true (.box b) fun i =>
 o.call (C 90 [h, i] H) fun j d =>
 o.lss j (.int .i64 0) fun k =>
 (o.cond k
 (o.build [.slice nilSl] [] [] fun l =>
 o.bstore 0 1 (.box [.slice nilSl]) l fun m =>
 o.resc 1 true (.box m) fun n =>
 some (.tuple [n, (.int .i64 10)], d))
 (o.lfld 0 (.box a) fun p =>
 o.lloadp 1 false (.box a) p fun q =>
 o.len q fun e =>
 o.make 1 4 [.int .u32 0] e e d fun c r =>
 o.lfld 0 (.box a) fun s =>
 o.lloadp 1 false (.box a) s fun t =>
 o.copy 1 c t r fun D u =>
 o.lfld 0 (.box b) fun v =>
 o.lloadp 1 false (.box b) v fun w =>
 o.call (C 103 [c, w] u) fun E x =>
 o.call (C 48 [c] x) fun y z =>
 o.bstore 0 1 (.box [.slice nilSl]) y fun A =>
 o.resc 1 true (.box A) fun B =>
 some (.tuple [B, (.int .i64 0)], z)))
def f92 (o : Ops) (K : Nat) (C : CallC) (c : SV) (H : Heap) : Rs :=
 o.bbox c fun a =>
 o.lfld 0 (.box a) fun d =>
 o.lloadp 1 false (.box a) d fun e =>
 o.len e fun b =>
 o.eql b (.int .i64 0) fun f =>
 (o.cond f
 (some (.tuple [(.int .u64 0), (.bool true)], H))
 (o.eql b (.int .i64 1) fun g =>
 (o.cond g
 (o.lfld 0 (.box a) fun h =>
 o.lloadp 1 false (.box a) h fun i =>
 o.idx 1 i (.int .i64 0) fun j =>
 o.load 1 false j H fun k =>
 o.conv .u64 k fun l =>
 o.rest l fun m =>
 some (.tuple [m, (.bool true)], H))
 (o.eql b (.int .i64 2) fun n =>
 (o.cond n
 (o.lfld 0 (.box a) fun p =>
 o.lloadp 1 false (.box a) p fun q =>
 o.idx 1 q (.int .i64 1) fun r =>
 o.load 1 false r H fun s =>
 o.conv .u64 s fun t =>
 o.shl t (.int .u64 32) fun u =>
 o.lfld 0 (.box a) fun v =>
 o.lloadp 1 false (.box a) v fun w =>
 o.idx 1 w (.int .i64 0) fun x =>
 o.load 1 false x H fun y =>
 o.conv .u64 y fun z =>
 o.or u z fun A =>
 o.rest A fun B =>
 some (.tuple [B, (.bool true)], H))
 (some (.tuple [(.int .u64 0), (.bool false)], H)))))))
def f93_j1 (o : Ops) (K : Nat) (C : CallC) (a : SV) (b : Heap) : Rs :=
 o.resc 2 true a fun c =>
 some (c, b)
def f93 (o : Ops) (K : Nat) (C : CallC) (f g : SV) (H : Heap) : Rs :=
 o.bbox f fun a =>
 o.bbox g fun b =>
 o.lfld 1 (.box a) fun h =>
 o.lloadp 1 false (.box a) h fun i =>
 o.lfld 1 (.box b) fun j =>
 o.lloadp 1 false (.box b) j fun k =>
 o.call (C 104 [i, k] H) fun d e =>
 o.ext 0 d fun c =>
 o.ext 1 d fun x =>
 o.lfld 0 (.box a) fun l =>
 o.lloadp 1 false (.box a) l fun m =>
 o.lfld 0 (.box b) fun n =>
 o.lloadp 1 false (.box b) n fun p =>
 o.b_neq m p fun q =>
 (o.guard q
 (o.len c fun r =>
 o.gtr r (.int .i64 0) fun s =>
 o.build [.bool false, .slice nilSl] [(0, 1), (1, 1)] [s, c] fun t =>
 o.bstore 0 2 (.box [.bool false, .slice nilSl]) t fun u =>
 (f93_j1 o K C (.box u) e))
 (o.build [.bool false, .slice nilSl] [(0, 1), (1, 1)] [(.bool false), c] fun v =>
 o.bstore 0 2 (.box [.bool false, .slice nilSl]) v fun w =>
 (f93_j1 o K C (.box w) e))
 (none))
def f94_j1 (o : Ops) (K : Nat) (C : CallC) (a : SV) (b : Heap) : Rs :=
 o.resc 2 true a fun c =>
 some (c, b)
def f94 (o : Ops) (K : Nat) (C : CallC) (b : SV) (H : Heap) : Rs :=
 o.bbox b fun a =>
 o.lfld 0 (.box a) fun c =>
 o.lloadp 1 false (.box a) c fun d =>
 o.u_not d fun e =>
 (o.guard e
 (o.lfld 1 (.box a) fun f =>
 o.lloadp 1 false (.box a) f fun g =>
 o.len g fun h =>
 o.gtr h (.int .i64 0) fun i =>
 o.lfld 1 (.box a) fun j =>
 o.lloadp 1 false (.box a) j fun k =>
 o.build [.bool false, .slice nilSl] [(0, 1), (1, 1)] [i, k] fun l =>
 o.bstore 0 2 (.box [.bool false, .slice nilSl]) l fun m =>
 (f94_j1 o K C (.box m) H))
 (o.lfld 1 (.box a) fun n =>
 o.lloadp 1 false (.box a) n fun p =>
 o.build [.bool false, .slice nilSl] [(0, 1), (1, 1)] [(.bool false), p] fun q =>
 o.bstore 0 2 (.box [.bool false, .slice nilSl]) q fun r =>
 (f94_j1 o K C (.box r) H))
 (none))
def f95_l2 (o : Ops) (K : Nat) (C : CallC) : SV -> SV -> SV -> Heap -> (SV -> SV -> SV -> Heap -> Rs) -> Rs := fun c d a b e =>
 o.geq a (.int .i64 0) fun f =>
 (o.cond f
 (o.mul d (.int .u64 65536) fun g =>
 o.idx 1 c a fun h =>
 o.load 1 false h b fun i =>
 o.conv .u64 i fun j =>
 o.add g j fun k =>
 o.sub a (.int .i64 1) fun l =>
 e c k l b)
 (o.rest d fun m =>
 some (.tuple [m, (.bool true)], b)))
def f95 (o : Ops) (K : Nat) (C : CallC) (a : SV) (H : Heap) : Rs :=
 o.len a fun b =>
 o.gtr b (.int .i64 4) fun c =>
 (o.cond c
 (some (.tuple [(.int .u64 0), (.bool false)], H))
 (o.len a fun d =>
 o.sub d (.int .i64 1) fun e =>
 (o.loop3 (f95_l2 o K C) K a (.int .u64 0) e H)))
def f96_l3 (o : Ops) (K : Nat) (C : CallC) : SV -> SV -> SV -> Heap -> (SV -> SV -> SV -> Heap -> Rs) -> Rs := fun c d b a e =>
 o.geq b (.int .i64 0) fun f =>
 (o.cond f
 (o.idx 1 c b fun g =>
 o.load 1 false g a fun h =>
 o.idx 1 d b fun i =>
 o.load 1 false i a fun j =>
 o.lss h j fun k =>
 (o.cond k
 (some ((.int .i64 (-1)), a))
 (o.idx 1 c b fun l =>
 o.load 1 false l a fun m =>
 o.idx 1 d b fun n =>
 o.load 1 false n a fun p =>
 o.gtr m p fun q =>
 (o.cond q
 (some ((.int .i64 1), a))
 (o.sub b (.int .i64 1) fun r =>
 e c d r a)))))
 (some ((.int .i64 0), a)))
def f96 (o : Ops) (K : Nat) (C : CallC) (a b : SV) (H : Heap) : Rs :=
 o.len a fun c =>
 o.len b fun d =>
 o.neq c d fun e =>
 (o.cond e
 (o.len a fun f =>
 o.len b fun g =>
 o.lss f g fun h =>
 (o.cond h
 (some ((.int .i64 (-1)), H))
 (some ((.int .i64 1), H))))
 (o.len a fun i =>
 o.sub i (.int .i64 1) fun j =>
 (o.loop3 (f96_l3 o K C) K a b j H)))
def f97_j3 (o : Ops) (K : Nat) (C : CallC) (b : SV -> SV -> SV -> SV -> SV -> Heap -> Rs) (c d e f a : SV) (g : Heap) : Rs :=
 o.rem a (.int .u32 65536) fun h =>
 o.hbuild 1 [.int .u32 0] [(0, 1)] [h] g fun i j =>
 o.append 1 4 e i j fun k l =>
 o.quo a (.int .u32 65536) fun m =>
 o.sub (.int .u32 1) m fun n =>
 o.add f (.int .i64 1) fun p =>
 b c d k n p l
def f97_l1 (o : Ops) (K : Nat) (C : CallC) : SV -> SV -> SV -> SV -> SV -> Heap -> (SV -> SV -> SV -> SV -> SV -> Heap -> Rs) -> Rs := fun c d e h a b f =>
 o.len c fun i =>
 o.lss a i fun j =>
 (o.cond j
 (o.idx 1 c a fun k =>
 o.load 1 false k b fun l =>
 o.add l (.int .u32 65536) fun m =>
 o.sub m h fun g =>
 o.len d fun n =>
 o.lss a n fun p =>
 (o.cond p
 (o.idx 1 d a fun q =>
 o.load 1 false q b fun r =>
 o.sub g r fun s =>
 (f97_j3 o K C f c d e a s b))
 ((f97_j3 o K C f c d e a g b))))
 (o.call (C 100 [e] b) fun t u =>
 o.rest t fun v =>
 some (v, u)))
def f97 (o : Ops) (K : Nat) (C : CallC) (a b : SV) (H : Heap) : Rs :=
 (o.loop5 (f97_l1 o K C) K a b (.slice nilSl) (.int .u32 0) (.int .i64 0) H)
def f98 (o : Ops) (K : Nat) (C : CallC) (j k l m b c : SV) (H : Heap) : Rs :=
 o.load 1 false m H fun n =>
 o.idx 1 n j fun p =>
 o.load 1 false p H fun q =>
 o.call (C 46 [q] H) fun r a =>
 o.load 1 false b a fun s =>
 o.idx 1 s k fun d =>
 o.load 1 false d a fun t =>
 o.call (C 46 [t] a) fun u v =>
 o.call (C 61 [r, u] v) fun e w =>
 o.ext 0 e fun x =>
 o.ext 1 e fun L =>
 o.bstore 0 2 (.box [.bool false, .slice nilSl]) x fun f =>
 (o.same b H a ((o.same d H a (o.lload 0 2 true (.box f) fun y =>
 o.call (C 46 [l] w) fun z A =>
 o.call (C 61 [y, z] A) fun g h =>
 o.ext 0 g fun B =>
 o.ext 1 g fun M =>
 o.bstore 0 2 (.box f) B fun D =>
 o.load 2 true c h fun E =>
 o.lload 0 2 true (.box D) fun F =>
 o.call (C 62 [E, F] h) fun i G =>
 o.ext 0 i fun I =>
 o.ext 1 i fun N =>
 o.store 2 c I G fun J =>
 some ((.bool true), J)))))
def f99_j3 (o : Ops) (K : Nat) (C : CallC) (a b c d e f : SV) (g : Heap) : Rs :=
 o.lfld 0 a fun h =>
 o.lloadp 1 false a h fun i =>
 o.lfld 0 b fun j =>
 o.lloadp 1 false b j fun k =>
 o.b_neq i k fun l =>
 o.lload 0 1 true e fun m =>
 o.call (C 53 [l, m] g) fun n p =>
 o.lload 0 1 true f fun q =>
 o.call (C 53 [(.bool false), q] p) fun r s =>
 o.bstore 0 2 c n fun t =>
 o.bstore 0 2 d r fun u =>
 o.resc 2 true (.box t) fun v =>
 o.resc 2 true (.box u) fun w =>
 some (.tuple [v, w, (.int .i64 0)], s)
def f99_j2 (o : Ops) (K : Nat) (C : CallC) (d a e f b c j : SV) (g : Heap) : Rs :=
 (o.cond j
 (o.lload 0 1 true b fun k =>
 o.call (C 74 [(.int .u64 1)] g) fun l m =>
 o.call (C 89 [k, l] m) fun h n =>
 o.ext 0 h fun p =>
 o.ext 1 h fun x =>
 o.bstore 0 1 b p fun q =>
 o.lfld 1 a fun r =>
 o.lloadp 1 true a r fun s =>
 o.lload 0 1 true c fun t =>
 o.call (C 91 [s, t] n) fun i u =>
 o.ext 0 i fun v =>
 o.ext 1 i fun y =>
 o.bstore 0 1 c v fun w =>
 (f99_j3 o K C d a e f (.box q) (.box w) u))
 ((f99_j3 o K C d a e f b c g)))
def f99 (o : Ops) (K : Nat) (C : CallC) (h i : SV) (H : Heap) : Rs :=
 o.bbox h fun a =>
 o.bbox i fun b =>
 o.lfld 1 (.box a) fun j =>
 o.lloadp 1 true (.box a) j fun k =>
 o.lfld 1 (.box b) fun l =>
 o.lloadp 1 true (.box b) l fun m =>
 o.call (C 105 [k, m] H) fun c d =>
 o.ext 0 c fun n =>
 o.ext 1 c fun p =>
 o.ext 2 c fun f =>
 o.bstore 0 1 (.box [.slice nilSl]) n fun g =>
 o.bstore 0 1 (.box [.slice nilSl]) p fun e =>
 o.neq f (.int .i64 0) fun q =>
 (o.cond q
 (o.build [.bool false, .slice nilSl] [] [] fun r =>
 o.build [.bool false, .slice nilSl] [] [] fun s =>
 o.bstore 0 2 (.box [.bool false, .slice nilSl]) r fun t =>
 o.bstore 0 2 (.box [.bool false, .slice nilSl]) s fun u =>
 o.resc 2 true (.box t) fun v =>
 o.resc 2 true (.box u) fun w =>
 o.rest f fun x =>
 some (.tuple [v, w, x], d))
 (o.lfld 0 (.box a) fun y =>
 o.lloadp 1 false (.box a) y fun z =>
 (o.guard z
 (o.lload 0 1 true (.box e) fun A =>
 o.call (C 58 [A] d) fun B D =>
 o.gtr B (.int .i64 0) fun E =>
 (f99_j2 o K C (.box a) (.box b) (.box [.bool false, .slice nilSl]) (.box [.bool false, .slice nilSl]) (.box g) (.box e) E D))
 ((f99_j2 o K C (.box a) (.box b) (.box [.bool false, .slice nilSl]) (.box [.bool false, .slice nilSl]) (.box g) (.box e) (.bool false) d))
 (none))))
def f100_j2 (o : Ops) (K : Nat) (C : CallC) (d : SV -> SV -> Heap -> Rs) (b c e : SV) (a : Heap) : Rs :=
 (o.cond e
 (o.sub c (.int .i64 1) fun f =>
 d b f a)
 (o.slice010 1 b c a fun g =>
 o.rest g fun h =>
 some (h, a)))
def f100_l1 (o : Ops) (K : Nat) (C : CallC) : SV -> SV -> Heap -> (SV -> SV -> Heap -> Rs) -> Rs := fun b a c d =>
 o.gtr a (.int .i64 0) fun e =>
 (o.guard e
 (o.sub a (.int .i64 1) fun f =>
 o.idx 1 b f fun g =>
 o.load 1 false g c fun h =>
 o.eql h (.int .u32 0) fun i =>
 (f100_j2 o K C d b a i c))
 ((f100_j2 o K C d b a (.bool false) c))
 (none))
def f100 (o : Ops) (K : Nat) (C : CallC) (a : SV) (H : Heap) : Rs :=
 o.len a fun b =>
 (o.loop2 (f100_l1 o K C) K a b H)
def f101 (o : Ops) (K : Nat) (C : CallC) (a : SV) (H : Heap) : Rs :=
 o.call (C 106 [a] H) fun b c =>
 o.rest b fun d =>
 some (d, c)
def f102_l3 (o : Ops) (K : Nat) (C : CallC) (p : SV -> SV -> SV -> SV -> SV -> SV -> Heap -> Rs) : SV -> SV -> SV -> SV -> SV -> SV -> SV -> SV -> SV -> SV -> SV -> SV -> Heap -> (SV -> SV -> SV -> SV -> SV -> SV -> SV -> SV -> SV -> SV -> SV -> SV -> Heap -> Rs) -> Rs := fun c f a d g h i j k l m b e q =>
 o.lss b m fun r =>
 (o.cond r
 (o.idx 1 l b fun s =>
 o.load 1 false s e fun t =>
 o.conv .u64 g fun u =>
 o.conv .u64 t fun v =>
 o.mul u v fun w =>
 o.add d b fun x =>
 o.idx 1 a x fun y =>
 o.load 1 false y e fun z =>
 o.conv .u64 z fun A =>
 o.add w A fun B =>
 o.add h B fun n =>
 o.add d b fun D =>
 o.conv .u32 n fun E =>
 o.idx 1 a D fun F =>
 o.store 1 F E e fun G =>
 o.shr n (.int .u64 32) fun I =>
 o.add b (.int .i64 1) fun J =>
 q c f a d g I i j k l m J G)
 (o.lfld 0 c fun L =>
 o.lloadp 1 false c L fun M =>
 o.len M fun N =>
 o.add d N fun P =>
 o.conv .u32 h fun Q =>
 o.idx 1 a P fun S =>
 o.store 1 S Q e fun T =>
 o.add k (.int .i64 1) fun U =>
 p c f a i j U T))
def f102_l1 (o : Ops) (K : Nat) (C : CallC) : SV -> SV -> SV -> SV -> SV -> SV -> Heap -> (SV -> SV -> SV -> SV -> SV -> SV -> Heap -> Rs) -> Rs := fun b d e f g a c i =>
 o.lss a g fun j =>
 (o.cond j
 (o.idx 1 f a fun k =>
 o.load 1 false k c fun l =>
 o.lfld 0 b fun m =>
 o.lloadp 1 false b m fun h =>
 o.len h fun n =>
 (o.loop12 (f102_l3 o K C i) K b d e a l (.int .u64 0) f g a h n (.int .i64 0) c))
 (o.call (C 48 [e] c) fun p q =>
 o.bstore 0 1 d p fun r =>
 o.resc 1 true (.box r) fun s =>
 some (s, q)))
def f102 (o : Ops) (K : Nat) (C : CallC) (e f : SV) (H : Heap) : Rs :=
 o.bbox e fun a =>
 o.bbox f fun b =>
 o.lfld 0 (.box a) fun g =>
 o.lloadp 1 false (.box a) g fun h =>
 o.len h fun i =>
 o.lfld 0 (.box b) fun j =>
 o.lloadp 1 false (.box b) j fun k =>
 o.len k fun l =>
 o.add i l fun c =>
 o.make 1 4 [.int .u32 0] c c H fun m n =>
 o.lfld 0 (.box a) fun p =>
 o.lloadp 1 false (.box a) p fun d =>
 o.len d fun q =>
 (o.loop6 (f102_l1 o K C) K (.box b) (.box [.slice nilSl]) m d q (.int .i64 0) n)
def f103_j3 (o : Ops) (K : Nat) (C : CallC) (e : SV -> SV -> SV -> SV -> SV -> Heap -> Rs) (a f g b h i j : SV) (c : Heap) : Rs :=
 o.idx 1 a b fun k =>
 o.load 1 false k c fun l =>
 o.call (C 107 [l, h, g] c) fun d m =>
 o.ext 0 d fun n =>
 o.ext 1 d fun p =>
 o.idx 1 a b fun q =>
 o.store 1 q n m fun r =>
 o.add j (.int .i64 1) fun s =>
 e a f p i s r
def f103_j5 (o : Ops) (K : Nat) (C : CallC) (a : Heap) : Rs :=
 some (.tuple [], a)
def f103_l1 (o : Ops) (K : Nat) (C : CallC) : SV -> SV -> SV -> SV -> SV -> Heap -> (SV -> SV -> SV -> SV -> SV -> Heap -> Rs) -> Rs := fun f c d e a b g =>
 o.lss a e fun h =>
 (o.cond h
 (o.len c fun i =>
 o.lss a i fun j =>
 (o.cond j
 (o.idx 1 c a fun k =>
 o.load 1 false k b fun l =>
 (f103_j3 o K C g f c d a l e a b))
 (o.eql d (.int .u32 0) fun m =>
 (o.cond m
 ((f103_j5 o K C b))
 ((f103_j3 o K C g f c d a (.int .u32 0) e a b))))))
 ((f103_j5 o K C b)))
def f103 (o : Ops) (K : Nat) (C : CallC) (a b : SV) (H : Heap) : Rs :=
 o.len a fun c =>
 (o.loop5 (f103_l1 o K C) K a b (.int .u32 0) c (.int .i64 0) H)
def f104_j5 (o : Ops) (K : Nat) (C : CallC) (a : SV -> SV -> SV -> SV -> SV -> SV -> SV -> Heap -> Rs) (b c d e f g h : SV) (i : Heap) : Rs :=
 a b c d e f g h i
def f104_l3 (o : Ops) (K : Nat) (C : CallC) (l : SV -> SV -> SV -> SV -> SV -> Heap -> Rs) : SV -> SV -> SV -> SV -> SV -> SV -> SV -> Heap -> (SV -> SV -> SV -> SV -> SV -> SV -> SV -> Heap -> Rs) -> Rs := fun f a c d e b g i j =>
 o.sub g b fun m =>
 o.gtr m (.int .u64 1) fun n =>
 (o.cond n
 (o.add b g fun p =>
 o.quo p (.int .u64 2) fun h =>
 o.call (C 67 [h] i) fun q r =>
 o.call (C 81 [q, a] r) fun s t =>
 o.call (C 96 [s, d] t) fun u k =>
 o.leq u (.int .i64 0) fun v =>
 (o.cond v
 ((f104_j5 o K C j f a c d e h g k))
 ((f104_j5 o K C j f a c d e b h k))))
 (o.conv .u32 b fun w =>
 o.idx 1 c e fun x =>
 o.store 1 x w i fun y =>
 o.call (C 67 [b] y) fun z A =>
 o.call (C 81 [z, a] A) fun B D =>
 o.call (C 97 [d, B] D) fun E F =>
 o.sub e (.int .i64 1) fun G =>
 l f a c E G F))
def f104_l1 (o : Ops) (K : Nat) (C : CallC) : SV -> SV -> SV -> SV -> SV -> Heap -> (SV -> SV -> SV -> SV -> SV -> Heap -> Rs) -> Rs := fun c f d e a b g =>
 o.geq a (.int .i64 0) fun h =>
 (o.cond h
 (o.idx 1 c a fun i =>
 o.load 1 false i b fun j =>
 o.hbuild 1 [.int .u32 0] [(0, 1)] [j] b fun k l =>
 o.append 1 4 k e l fun m n =>
 o.call (C 100 [m] n) fun p q =>
 (o.loop7 (f104_l3 o K C g) K c f d p a (.int .u64 0) (.int .u64 65536) q))
 (o.call (C 100 [d] b) fun r s =>
 o.rest r fun t =>
 o.rest e fun u =>
 some (.tuple [t, u], s)))
def f104 (o : Ops) (K : Nat) (C : CallC) (a c : SV) (H : Heap) : Rs :=
 o.len a fun b =>
 o.make 1 4 [.int .u32 0] b b H fun d e =>
 o.len a fun f =>
 o.sub f (.int .i64 1) fun g =>
 (o.loop5 (f104_l1 o K C) K a c d (.slice nilSl) g e)
def f105 (o : Ops) (K : Nat) (C : CallC) (i j : SV) (H : Heap) : Rs :=
 o.bbox i fun b =>
 o.bbox j fun a =>
 o.lfld 0 (.box a) fun k =>
 o.lloadp 1 false (.box a) k fun l =>
 o.len l fun m =>
 o.eql m (.int .i64 0) fun n =>
 (o.cond n
 (o.build [.slice nilSl] [] [] fun p =>
 o.build [.slice nilSl] [] [] fun q =>
 o.bstore 0 1 (.box [.slice nilSl]) p fun r =>
 o.bstore 0 1 (.box [.slice nilSl]) q fun s =>
 o.resc 1 true (.box r) fun t =>
 o.resc 1 true (.box s) fun u =>
 some (.tuple [t, u, (.int .i64 11)], H))
 (o.lload 0 1 true (.box b) fun v =>
 o.lload 0 1 true (.box a) fun w =>
 o.call (C 90 [v, w] H) fun x c =>
 o.lss x (.int .i64 0) fun y =>
 (o.cond y
 (o.build [.slice nilSl] [] [] fun z =>
 o.lload 0 1 true (.box b) fun A =>
 o.bstore 0 1 (.box [.slice nilSl]) z fun B =>
 o.bstore 0 1 (.box [.slice nilSl]) A fun D =>
 o.resc 1 true (.box B) fun E =>
 o.resc 1 true (.box D) fun F =>
 some (.tuple [E, F, (.int .i64 0)], c))
 (o.lfld 0 (.box a) fun G =>
 o.lloadp 1 false (.box a) G fun I =>
 o.len I fun J =>
 o.eql J (.int .i64 1) fun L =>
 (o.cond L
 (o.lfld 0 (.box b) fun M =>
 o.lloadp 1 false (.box b) M fun N =>
 o.append 1 4 (.slice nilSl) N c fun d e =>
 o.lfld 0 (.box a) fun P =>
 o.lloadp 1 false (.box a) P fun Q =>
 o.idx 1 Q (.int .i64 0) fun S =>
 o.load 1 false S e fun T =>
 o.call (C 47 [d, T] e) fun U V =>
 o.call (C 48 [d] V) fun W X =>
 o.conv .u64 U fun Y =>
 o.call (C 74 [Y] X) fun Z aa =>
 o.bstore 0 1 (.box [.slice nilSl]) W fun ab =>
 o.bstore 0 1 (.box [.slice nilSl]) Z fun ac =>
 o.resc 1 true (.box ab) fun ad =>
 o.resc 1 true (.box ac) fun ae =>
 some (.tuple [ad, ae, (.int .i64 0)], aa))
 (o.lload 0 1 true (.box b) fun af =>
 o.lload 0 1 true (.box a) fun ag =>
 o.call (C 108 [af, ag] c) fun f ah =>
 o.ext 0 f fun ai =>
 o.ext 1 f fun aj =>
 o.bstore 0 1 (.box [.slice nilSl]) ai fun g =>
 o.bstore 0 1 (.box [.slice nilSl]) aj fun h =>
 o.lload 0 1 true (.box g) fun ak =>
 o.lload 0 1 true (.box h) fun al =>
 o.bstore 0 1 (.box g) ak fun am =>
 o.bstore 0 1 (.box h) al fun an =>
 o.resc 1 true (.box am) fun ap =>
 o.resc 1 true (.box an) fun aq =>
 some (.tuple [ap, aq, (.int .i64 0)], ah)))))))
def f106_j3 (o : Ops) (K : Nat) (C : CallC) (a b : SV) (c : Heap) : Rs :=
 o.conv .u8 a fun d =>
 o.stridx (.str [0, 1, 2, 2, 3, 3, 3, 3, 4, 4, 4, 4, 4, 4, 4, 4, 5, 5, 5, 5, 5, 5, 5, 5, 5, 5, 5, 5, 5, 5, 5, 5, 6, 6, 6, 6, 6, 6, 6, 6, 6, 6, 6, 6, 6, 6, 6, 6, 6, 6, 6, 6, 6, 6, 6, 6, 6, 6, 6, 6, 6, 6, 6, 6, 7, 7, 7, 7, 7, 7, 7, 7, 7, 7, 7, 7, 7, 7, 7, 7, 7, 7, 7, 7, 7, 7, 7, 7, 7, 7, 7, 7, 7, 7, 7, 7, 7, 7, 7, 7, 7, 7, 7, 7, 7, 7, 7, 7, 7, 7, 7, 7, 7, 7, 7, 7, 7, 7, 7, 7, 7, 7, 7, 7, 7, 7, 7, 7, 8, 8, 8, 8, 8, 8, 8, 8, 8, 8, 8, 8, 8, 8, 8, 8, 8, 8, 8, 8, 8, 8, 8, 8, 8, 8, 8, 8, 8, 8, 8, 8, 8, 8, 8, 8, 8, 8, 8, 8, 8, 8, 8, 8, 8, 8, 8, 8, 8, 8, 8, 8, 8, 8, 8, 8, 8, 8, 8, 8, 8, 8, 8, 8, 8, 8, 8, 8, 8, 8, 8, 8, 8, 8, 8, 8, 8, 8, 8, 8, 8, 8, 8, 8, 8, 8, 8, 8, 8, 8, 8, 8, 8, 8, 8, 8, 8, 8, 8, 8, 8, 8, 8, 8, 8, 8, 8, 8, 8, 8, 8, 8, 8, 8, 8, 8, 8, 8, 8, 8, 8, 8, 8, 8, 8, 8, 8, 8]) d fun e =>
 o.conv .i64 e fun f =>
 o.add b f fun g =>
 o.rest g fun h =>
 some (h, c)
def f106_j2 (o : Ops) (K : Nat) (C : CallC) (a b : SV) (c : Heap) : Rs :=
 o.geq a (.int .u64 256) fun d =>
 (o.cond d
 (o.shr a (.int .u64 8) fun e =>
 o.add b (.int .i64 8) fun f =>
 (f106_j3 o K C e f c))
 ((f106_j3 o K C a b c)))
def f106_j1 (o : Ops) (K : Nat) (C : CallC) (a b : SV) (c : Heap) : Rs :=
 o.geq a (.int .u64 65536) fun d =>
 (o.cond d
 (o.shr a (.int .u64 16) fun e =>
 o.add b (.int .i64 16) fun f =>
 (f106_j2 o K C e f c))
 ((f106_j2 o K C a b c)))
def f106 (o : Ops) (K : Nat) (C : CallC) (a : SV) (H : Heap) : Rs :=
 o.geq a (.int .u64 4294967296) fun b =>
 (o.cond b
 (o.shr a (.int .u64 32) fun c =>
 (f106_j1 o K C c (.int .i64 32) H))
 ((f106_j1 o K C a (.int .i64 0) H)))
def f107 (o : Ops) (K : Nat) (C : CallC) (a b d : SV) (H : Heap) : Rs :=
 o.sub a b fun e =>
 o.sub e d fun c =>
 o.u_xor a fun f =>
 o.and f b fun g =>
 o.xor a b fun h =>
 o.u_xor h fun i =>
 o.and i c fun j =>
 o.or g j fun k =>
 o.shr k (.int .u64 31) fun l =>
 o.rest c fun m =>
 o.rest l fun n =>
 some (.tuple [m, n], H)
def f108_j7 (o : Ops) (K : Nat) (C : CallC) (a : SV -> SV -> SV -> SV -> SV -> SV -> SV -> SV -> Heap -> Rs) (b c d e f g h i : SV) (j : Heap) : Rs :=
 o.sub i (.int .i64 1) fun k =>
 a b c d e f g h k j
def f108_j11 (o : Ops) (K : Nat) (C : CallC) (c : SV -> SV -> SV -> SV -> SV -> SV -> SV -> SV -> SV -> SV -> SV -> SV -> Heap -> Rs) (d e f g h i j k a b l m n : SV) (p : Heap) : Rs :=
 o.conv .u32 b fun q =>
 o.idx 1 a l fun r =>
 o.store 1 r q p fun s =>
 o.shr b (.int .u64 32) fun t =>
 o.add n (.int .i64 1) fun u =>
 c d e f g h i j k a t m u s
def f108_l9 (o : Ops) (K : Nat) (C : CallC) (p : SV -> SV -> SV -> SV -> SV -> SV -> SV -> SV -> Heap -> Rs) : SV -> SV -> SV -> SV -> SV -> SV -> SV -> SV -> SV -> SV -> SV -> SV -> Heap -> (SV -> SV -> SV -> SV -> SV -> SV -> SV -> SV -> SV -> SV -> SV -> SV -> Heap -> Rs) -> Rs := fun e f c g d h i j k q l a b m =>
 o.lss a l fun r =>
 (o.cond r
 (o.idx 1 k a fun s =>
 o.load 1 false s b fun t =>
 o.conv .u64 t fun u =>
 o.add q u fun n =>
 o.lss a c fun v =>
 (o.cond v
 (o.idx 1 d a fun w =>
 o.load 1 false w b fun x =>
 o.conv .u64 x fun y =>
 o.add n y fun z =>
 (f108_j11 o K C m e f c g d h i j k z a l a b))
 ((f108_j11 o K C m e f c g d h i j k n a l a b))))
 ((f108_j7 o K C p e f c g d h i j b)))
def f108_j6 (o : Ops) (K : Nat) (C : CallC) (h : SV -> SV -> SV -> SV -> SV -> SV -> SV -> SV -> Heap -> Rs) (i j b k d e c a f : SV) (l : Heap) : Rs :=
 o.add a b fun n =>
 o.add n (.int .i64 1) fun p =>
 o.add a b fun q =>
 o.add q (.int .i64 1) fun r =>
 o.slice111 1 e a p r l fun g =>
 o.conv .u32 f fun s =>
 o.call (C 111 [g, d, s] l) fun t m =>
 o.u_not t fun u =>
 (o.cond u
 (o.conv .u32 f fun v =>
 o.idx 1 c a fun w =>
 o.store 1 w v m fun x =>
 (f108_j7 o K C h i j b k d e c a x))
 (o.conv .u32 f fun y =>
 o.sub y (.int .u32 1) fun z =>
 o.idx 1 c a fun A =>
 o.store 1 A z m fun B =>
 o.len g fun D =>
 (o.loop12 (f108_l9 o K C h) K i j b k d e c a g (.int .u64 0) D (.int .i64 0) B)))
def f108_j4 (o : Ops) (K : Nat) (C : CallC) (j : SV -> SV -> SV -> SV -> SV -> SV -> SV -> SV -> Heap -> Rs) (n : SV -> SV -> SV -> SV -> SV -> SV -> SV -> SV -> SV -> SV -> Heap -> Rs) (d e a f b g h i k p q : SV) (c : Heap) : Rs :=
 (o.cond q
 (o.sub k (.int .u64 1) fun l =>
 o.sub a (.int .i64 1) fun r =>
 o.idx 1 b r fun s =>
 o.load 1 false s c fun t =>
 o.conv .u64 t fun u =>
 o.add p u fun m =>
 o.shr m (.int .u64 32) fun v =>
 o.neq v (.int .u64 0) fun w =>
 (o.cond w
 ((f108_j6 o K C j d e a f b g h i l c))
 (n d e a f b g h i l m c)))
 ((f108_j6 o K C j d e a f b g h i k c)))
def f108_l3 (o : Ops) (K : Nat) (C : CallC) (h : SV -> SV -> SV -> SV -> SV -> SV -> SV -> SV -> Heap -> Rs) : SV -> SV -> SV -> SV -> SV -> SV -> SV -> SV -> SV -> SV -> Heap -> (SV -> SV -> SV -> SV -> SV -> SV -> SV -> SV -> SV -> SV -> Heap -> Rs) -> Rs := fun i j a k d e l f b g c m =>
 o.shr b (.int .u64 32) fun n =>
 o.neq n (.int .u64 0) fun p =>
 (o.guard p
 ((f108_j4 o K C h m i j a k d e l f b g (.bool true) c))
 (o.sub a (.int .i64 2) fun q =>
 o.idx 1 d q fun r =>
 o.load 1 false r c fun s =>
 o.conv .u64 s fun t =>
 o.mul b t fun u =>
 o.shl g (.int .u64 32) fun v =>
 o.add f a fun w =>
 o.sub w (.int .i64 2) fun x =>
 o.idx 1 e x fun y =>
 o.load 1 false y c fun z =>
 o.conv .u64 z fun A =>
 o.or v A fun B =>
 o.gtr u B fun D =>
 (f108_j4 o K C h m i j a k d e l f b g D c))
 (none))
def f108_l1 (o : Ops) (K : Nat) (C : CallC) : SV -> SV -> SV -> SV -> SV -> SV -> SV -> SV -> Heap -> (SV -> SV -> SV -> SV -> SV -> SV -> SV -> SV -> Heap -> Rs) -> Rs := fun f g b h e c i d a k =>
 o.geq d (.int .i64 0) fun l =>
 (o.cond l
 (o.add d b fun m =>
 o.idx 1 c m fun n =>
 o.load 1 false n a fun p =>
 o.conv .u64 p fun q =>
 o.shl q (.int .u64 32) fun r =>
 o.add d b fun s =>
 o.sub s (.int .i64 1) fun t =>
 o.idx 1 c t fun u =>
 o.load 1 false u a fun v =>
 o.conv .u64 v fun w =>
 o.or r w fun j =>
 o.sub b (.int .i64 1) fun x =>
 o.idx 1 e x fun y =>
 o.load 1 false y a fun z =>
 o.conv .u64 z fun A =>
 o.quo j A fun B =>
 o.sub b (.int .i64 1) fun D =>
 o.idx 1 e D fun E =>
 o.load 1 false E a fun F =>
 o.conv .u64 F fun G =>
 o.rem j G fun I =>
 (o.loop10 (f108_l3 o K C k) K f g b h e c i d B I a))
 (o.call (C 48 [i] a) fun J L =>
 o.call (C 112 [c, h] L) fun M N =>
 o.bstore 0 1 f J fun P =>
 o.bstore 0 1 g M fun Q =>
 o.resc 1 true (.box P) fun S =>
 o.resc 1 true (.box Q) fun T =>
 some (.tuple [S, T], N)))
def f108 (o : Ops) (K : Nat) (C : CallC) (g h : SV) (H : Heap) : Rs :=
 o.bbox g fun b =>
 o.bbox h fun a =>
 o.lfld 0 (.box a) fun i =>
 o.lloadp 1 false (.box a) i fun j =>
 o.len j fun c =>
 o.lfld 0 (.box a) fun k =>
 o.lloadp 1 false (.box a) k fun l =>
 o.lfld 0 (.box a) fun m =>
 o.lloadp 1 false (.box a) m fun n =>
 o.len n fun p =>
 o.sub p (.int .i64 1) fun q =>
 o.idx 1 l q fun r =>
 o.load 1 false r H fun s =>
 o.call (C 109 [s] H) fun d t =>
 o.lfld 0 (.box a) fun u =>
 o.lloadp 1 false (.box a) u fun v =>
 o.call (C 110 [v, d, c] t) fun w x =>
 o.lfld 0 (.box b) fun y =>
 o.lloadp 1 false (.box b) y fun z =>
 o.lfld 0 (.box b) fun A =>
 o.lloadp 1 false (.box b) A fun B =>
 o.len B fun D =>
 o.add D (.int .i64 1) fun E =>
 o.call (C 110 [z, d, E] x) fun f F =>
 o.len f fun G =>
 o.sub G c fun e =>
 o.make 1 4 [.int .u32 0] e e F fun I J =>
 o.sub e (.int .i64 1) fun L =>
 (o.loop8 (f108_l1 o K C) K (.box [.slice nilSl]) (.box [.slice nilSl]) c d w f I L J)
def f109 (o : Ops) (K : Nat) (C : CallC) (a : SV) (H : Heap) : Rs :=
 o.call (C 86 [a] H) fun b c =>
 o.sub (.int .i64 32) b fun d =>
 o.rest d fun e =>
 some (e, c)
def f110_j3 (o : Ops) (K : Nat) (C : CallC) (c : SV -> SV -> SV -> SV -> SV -> SV -> Heap -> Rs) (d e a b f g h : SV) (i : Heap) : Rs :=
 o.conv .u32 b fun j =>
 o.idx 1 a f fun k =>
 o.store 1 k j i fun l =>
 o.shr b (.int .u64 32) fun m =>
 o.add h (.int .i64 1) fun n =>
 c d e a m g n l
def f110_l1 (o : Ops) (K : Nat) (C : CallC) : SV -> SV -> SV -> SV -> SV -> SV -> Heap -> (SV -> SV -> SV -> SV -> SV -> SV -> Heap -> Rs) -> Rs := fun b d e g f a c h =>
 o.lss a f fun i =>
 (o.cond i
 (o.len b fun j =>
 o.lss a j fun k =>
 (o.cond k
 (o.idx 1 b a fun l =>
 o.load 1 false l c fun m =>
 o.conv .u64 m fun n =>
 o.shl n d fun p =>
 o.or g p fun q =>
 (f110_j3 o K C h b d e q a f a c))
 ((f110_j3 o K C h b d e g a f a c))))
 (o.rest e fun r =>
 some (r, c)))
def f110 (o : Ops) (K : Nat) (C : CallC) (c d a : SV) (H : Heap) : Rs :=
 o.make 1 4 [.int .u32 0] a a H fun b e =>
 o.len b fun f =>
 (o.loop6 (f110_l1 o K C) K c d b (.int .u64 0) f (.int .i64 0) e)
def f111_j3 (o : Ops) (K : Nat) (C : CallC) (f : SV -> SV -> SV -> SV -> SV -> SV -> SV -> Heap -> Rs) (a g h b i c j k : SV) (d : Heap) : Rs :=
 o.idx 1 a c fun l =>
 o.load 1 false l d fun m =>
 o.conv .u32 b fun n =>
 o.call (C 107 [m, n, i] d) fun e p =>
 o.ext 0 e fun q =>
 o.ext 1 e fun r =>
 o.idx 1 a c fun s =>
 o.store 1 s q p fun t =>
 o.shr b (.int .u64 32) fun u =>
 o.add k (.int .i64 1) fun v =>
 f a g h u r j v t
def f111_l1 (o : Ops) (K : Nat) (C : CallC) : SV -> SV -> SV -> SV -> SV -> SV -> SV -> Heap -> (SV -> SV -> SV -> SV -> SV -> SV -> SV -> Heap -> Rs) -> Rs := fun g b d h e f a c i =>
 o.lss a f fun j =>
 (o.cond j
 (o.len b fun k =>
 o.lss a k fun l =>
 (o.cond l
 (o.idx 1 b a fun m =>
 o.load 1 false m c fun n =>
 o.conv .u64 n fun p =>
 o.conv .u64 d fun q =>
 o.mul p q fun r =>
 o.add h r fun s =>
 (f111_j3 o K C i g b d s e a f a c))
 ((f111_j3 o K C i g b d h e a f a c))))
 (o.neq e (.int .u32 0) fun t =>
 o.rest t fun u =>
 some (u, c)))
def f111 (o : Ops) (K : Nat) (C : CallC) (a b c : SV) (H : Heap) : Rs :=
 o.len a fun d =>
 (o.loop7 (f111_l1 o K C) K a b c (.int .u64 0) (.int .u32 0) d (.int .i64 0) H)
def f112_j3 (o : Ops) (K : Nat) (C : CallC) (c : SV -> SV -> SV -> SV -> SV -> SV -> Heap -> Rs) (d a e b f g h i : SV) (j : Heap) : Rs :=
 o.shr g a fun k =>
 o.conv .u32 k fun l =>
 o.idx 1 b f fun m =>
 o.store 1 m l j fun n =>
 o.add i (.int .i64 1) fun p =>
 c d a e b h p n
def f112_l1 (o : Ops) (K : Nat) (C : CallC) : SV -> SV -> SV -> SV -> SV -> SV -> Heap -> (SV -> SV -> SV -> SV -> SV -> SV -> Heap -> Rs) -> Rs := fun b g d e f a c h =>
 o.lss a f fun j =>
 (o.cond j
 (o.idx 1 b a fun k =>
 o.load 1 false k c fun l =>
 o.conv .u64 l fun i =>
 o.add a (.int .i64 1) fun m =>
 o.len b fun n =>
 o.lss m n fun p =>
 (o.cond p
 (o.add a (.int .i64 1) fun q =>
 o.idx 1 b q fun r =>
 o.load 1 false r c fun s =>
 o.conv .u64 s fun t =>
 o.shl t (.int .u64 32) fun u =>
 o.or i u fun v =>
 (f112_j3 o K C h b g d e a v f a c))
 ((f112_j3 o K C h b g d e a i f a c))))
 (o.call (C 48 [e] c) fun w x =>
 o.bstore 0 1 d w fun y =>
 o.resc 1 true (.box y) fun z =>
 some (z, x)))
def f112 (o : Ops) (K : Nat) (C : CallC) (a c : SV) (H : Heap) : Rs :=
 o.len a fun b =>
 o.make 1 4 [.int .u32 0] b b H fun d e =>
 o.len a fun f =>
 (o.loop6 (f112_l1 o K C) K a c (.box [.slice nilSl]) d f (.int .i64 0) e)
end Go.Sh.Of
