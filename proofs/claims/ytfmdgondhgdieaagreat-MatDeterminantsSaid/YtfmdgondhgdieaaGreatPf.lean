/- Plain forms, printed by a program. -/
import Derived.Test.YtfmdgondhgdieaaGreatSh26
set_option linter.unusedVariables false
set_option maxRecDepth 100000
namespace Go.Sh.Of
open Go
def f3_j8 (o : Ops) (K : Nat) (C : CallC) (a : SV) (b : Heap) : Rs :=
 o.rest a fun c =>
 some (c, b)
def f3_j15 (o : Ops) (K : Nat) (C : CallC) (a c d e f g h : SV) (b : Heap) : Rs :=
 (o.cond h
 (o.lload 0 1 true e fun i =>
 o.call (C 21 [a] b) fun j k =>
 o.call (C 20 [i, f, j, (.int .i64 0)] k) fun l m =>
 o.rest l fun n =>
 some (n, m))
 (o.lload 0 1 true c fun p =>
 o.lload 0 2 true g fun q =>
 o.call (C 22 [a, q] b) fun r s =>
 o.call (C 20 [p, d, r, (.int .i64 0)] s) fun t u =>
 o.rest t fun v =>
 some (v, u)))
def f3_j12 (o : Ops) (K : Nat) (C : CallC) (a f g b c d i : SV) (e : Heap) : Rs :=
 (o.cond i
 (some ((.bool false), e))
 (o.len a fun j =>
 o.gtr j (.int .i64 6) fun k =>
 (o.cond k
 (some ((.bool true), e))
 (o.lload 0 1 true b fun l =>
 o.call (C 21 [a] e) fun m n =>
 o.call (C 20 [l, c, m, (.int .i64 0)] n) fun p h =>
 o.u_not p fun q =>
 (o.guard q
 ((f3_j15 o K C a f g b c d (.bool true) h))
 (o.lload 0 2 true d fun r =>
 o.call (C 19 [r] h) fun s t =>
 o.u_not s fun u =>
 (f3_j15 o K C a f g b c d u t))
 (none))))))
def f3_j10 (o : Ops) (K : Nat) (C : CallC) (d a b e f c i : SV) (h : Heap) : Rs :=
 (o.cond i
 (some ((.bool false), h))
 (o.lload 0 2 true c fun j =>
 o.call (C 19 [j] h) fun k g =>
 o.u_not k fun l =>
 (o.guard l
 (o.neq b (.int .i64 50) fun m =>
 (o.guard m
 ((f3_j12 o K C d a b e f c (.bool true) g))
 (o.lload 0 1 true a fun n =>
 o.call (C 15 [n] g) fun p q =>
 o.len p fun r =>
 o.neq r (.int .i64 0) fun s =>
 (f3_j12 o K C d a b e f c s q))
 (none)))
 ((f3_j12 o K C d a b e f c (.bool false) g))
 (none))))
def f3_j6 (o : Ops) (K : Nat) (C : CallC) (c i j d e f a g : SV) (b : Heap) : Rs :=
 o.neq g (.int .i64 0) fun p =>
 (o.cond p
 (o.eql j g fun q =>
 (o.guard q
 (o.eql e g fun r =>
 (o.guard r
 (o.eql a g fun s =>
 (o.guard s
 (o.lload 0 2 true i fun t =>
 o.call (C 14 [t] b) fun u k =>
 o.eql u (.int .i64 0) fun v =>
 (o.guard v
 (o.lload 0 1 true d fun w =>
 o.call (C 15 [w] k) fun x l =>
 o.len x fun y =>
 o.eql y (.int .i64 0) fun z =>
 (o.guard z
 (o.lload 0 1 true f fun A =>
 o.call (C 15 [A] l) fun B D =>
 o.len B fun E =>
 o.eql E (.int .i64 0) fun F =>
 (f3_j8 o K C F D))
 ((f3_j8 o K C (.bool false) l))
 (none)))
 ((f3_j8 o K C (.bool false) k))
 (none)))
 ((f3_j8 o K C (.bool false) b))
 (none)))
 ((f3_j8 o K C (.bool false) b))
 (none)))
 ((f3_j8 o K C (.bool false) b))
 (none)))
 (o.call (C 16 [c] b) fun G m =>
 o.bstore 0 2 (.box [.bool false, .slice nilSl]) G fun h =>
 o.neq j (.int .i64 0) fun I =>
 (o.guard I
 ((f3_j10 o K C c d e f a (.box h) (.bool true) m))
 (o.lload 0 2 true i fun J =>
 o.call (C 17 [J] m) fun L M =>
 o.lload 0 2 true (.box h) fun N =>
 o.call (C 18 [N] M) fun P n =>
 o.neq L P fun Q =>
 (o.guard Q
 ((f3_j10 o K C c d e f a (.box h) (.bool true) n))
 (o.neq a (.int .i64 0) fun S =>
 (f3_j10 o K C c d e f a (.box h) S n))
 (none)))
 (none))))
def f3_j17 (o : Ops) (K : Nat) (C : CallC) (a b c d e f g h : SV) (i : Heap) : Rs :=
 (f3_j6 o K C a b c d e f g h i)
def f3_j4 (o : Ops) (K : Nat) (C : CallC) (a b c d e f g j k : SV) (i : Heap) : Rs :=
 (o.cond k
 (some ((.bool false), i))
 (o.len a fun l =>
 o.call (C 13 [a] i) fun m h =>
 o.neq l m fun n =>
 (o.cond n
 ((f3_j6 o K C a b c d e f g (.int .i64 5) h))
 ((o.cond j
 ((f3_j17 o K C a b c d e f g (.int .i64 3) h))
 ((f3_j17 o K C a b c d e f g (.int .i64 0) h)))))))
def f3_j1 (o : Ops) (K : Nat) (C : CallC) (u v : SV) (n : Heap) : Rs :=
 (o.cond v
 (o.call (C 4 [] n) fun w x =>
 o.rest w fun y =>
 some (y, x))
 (o.call (C 6 [u] n) fun k p =>
 o.ext 0 k fun z =>
 o.ext 1 k fun b =>
 o.ext 2 k fun A =>
 o.bstore 0 1 (.box [.slice nilSl]) z fun j =>
 o.u_not A fun B =>
 (o.cond B
 (some ((.bool false), p))
 (o.lload 0 1 true (.box j) fun D =>
 o.call (C 7 [D] p) fun q E =>
 o.ext 0 q fun F =>
 o.ext 1 q fun c =>
 o.bstore 0 2 (.box [.bool false, .slice nilSl]) F fun d =>
 o.lload 0 1 true (.box j) fun G =>
 o.call (C 8 [G] E) fun r I =>
 o.ext 0 r fun J =>
 o.ext 1 r fun e =>
 o.bstore 0 1 (.box [.slice nilSl]) J fun f =>
 o.lload 0 1 true (.box j) fun L =>
 o.call (C 9 [L] I) fun s M =>
 o.ext 0 s fun N =>
 o.ext 1 s fun g =>
 o.bstore 0 1 (.box [.slice nilSl]) N fun h =>
 o.lload 0 1 true (.box j) fun P =>
 o.call (C 10 [P] M) fun t Q =>
 o.ext 0 t fun l =>
 o.ext 1 t fun m =>
 o.call (C 11 [b] Q) fun a i =>
 o.eql m (.int .i64 3) fun S =>
 o.b_neq a S fun T =>
 (o.guard T
 ((f3_j4 o K C b (.box d) c (.box f) e (.box h) g a (.bool true) i))
 ((o.guard a
 (o.neq l (.int .i64 0) fun U =>
 (o.guard U
 ((f3_j4 o K C b (.box d) c (.box f) e (.box h) g a (.bool true) i))
 (o.u_not a fun V =>
 (o.guard V
 (o.neq m (.int .i64 0) fun W =>
 (o.guard W
 ((f3_j4 o K C b (.box d) c (.box f) e (.box h) g a (.bool true) i))
 (o.call (C 12 [b] i) fun X Y =>
 o.neq l X fun Z =>
 (f3_j4 o K C b (.box d) c (.box f) e (.box h) g a Z Y))
 (none)))
 ((f3_j4 o K C b (.box d) c (.box f) e (.box h) g a (.bool false) i))
 (none)))
 (none)))
 (o.u_not a fun aa =>
 (o.guard aa
 (o.neq m (.int .i64 0) fun ab =>
 (o.guard ab
 ((f3_j4 o K C b (.box d) c (.box f) e (.box h) g a (.bool true) i))
 (o.call (C 12 [b] i) fun ac ad =>
 o.neq l ac fun ae =>
 (f3_j4 o K C b (.box d) c (.box f) e (.box h) g a ae ad))
 (none)))
 ((f3_j4 o K C b (.box d) c (.box f) e (.box h) g a (.bool false) i))
 (none)))
 (none)))
 (none))))))
def f3 (o : Ops) (K : Nat) (C : CallC) (a : SV) (H : Heap) : Rs :=
 o.call (C 4 [] H) fun c b =>
 o.u_not c fun d =>
 (o.guard d
 ((f3_j1 o K C a (.bool true) b))
 (o.hbuild 1 [.slice nilSl] [(0, 1)] [a] b fun e f =>
 o.call (C 5 [e] f) fun g h =>
 (f3_j1 o K C a g h))
 (none))
def f4_j1 (o : Ops) (K : Nat) (C : CallC) (a : SV) (b : Heap) : Rs :=
 o.rest a fun c =>
 some (c, b)
def f4 (o : Ops) (K : Nat) (C : CallC) (H : Heap) : Rs :=
 o.hbuild 1 [.int .i64 0, .int .i64 0] [(0, 1), (1, 1)] [(.int .i64 2), (.int .i64 1)] H fun m n =>
 o.hbuild 1 [.int .i64 0, .int .i64 0] [(0, 1), (1, 1)] [(.int .i64 1), (.int .i64 1)] n fun p q =>
 o.hbuild 1 [.slice nilSl, .slice nilSl] [(0, 1), (1, 1)] [m, p] q fun r s =>
 o.call (C 23 [r] s) fun d t =>
 o.ext 0 d fun u =>
 o.ext 1 d fun v =>
 o.bstore 0 1 (.box [.slice nilSl]) u fun b =>
 o.hbuild 1 [.int .i64 0, .int .i64 0] [(0, 1), (1, 1)] [(.int .i64 1), (.int .i64 2)] t fun w x =>
 o.hbuild 1 [.int .i64 0, .int .i64 0] [(0, 1), (1, 1)] [(.int .i64 3), (.int .i64 4)] x fun y z =>
 o.hbuild 1 [.slice nilSl, .slice nilSl] [(0, 1), (1, 1)] [w, y] z fun A B =>
 o.call (C 23 [A] B) fun e D =>
 o.ext 0 e fun E =>
 o.ext 1 e fun F =>
 o.bstore 0 1 (.box [.slice nilSl]) E fun f =>
 o.lload 0 1 true (.box b) fun G =>
 o.call (C 8 [G] D) fun g I =>
 o.ext 0 g fun J =>
 o.ext 1 g fun L =>
 o.bstore 0 1 (.box [.slice nilSl]) J fun M =>
 o.lload 0 1 true (.box f) fun N =>
 o.call (C 7 [N] I) fun h P =>
 o.ext 0 h fun Q =>
 o.ext 1 h fun S =>
 o.bstore 0 2 (.box [.bool false, .slice nilSl]) Q fun T =>
 o.lload 0 1 true (.box b) fun U =>
 o.lload 0 1 true (.box M) fun V =>
 o.call (C 24 [U, V] P) fun i W =>
 o.ext 0 i fun X =>
 o.ext 1 i fun Y =>
 o.bstore 0 1 (.box [.slice nilSl]) X fun Z =>
 o.call (C 25 [(.int .i64 2)] W) fun j aa =>
 o.ext 0 j fun ab =>
 o.ext 1 j fun ac =>
 o.bstore 0 1 (.box [.slice nilSl]) ab fun ad =>
 o.lload 0 1 true (.box f) fun ae =>
 o.call (C 8 [ae] aa) fun k a =>
 o.ext 0 k fun af =>
 o.ext 1 k fun ag =>
 o.bstore 0 1 (.box [.slice nilSl]) af fun aD =>
 o.eql v (.int .i64 0) fun ah =>
 (o.guard ah
 (o.eql F (.int .i64 0) fun ai =>
 (o.guard ai
 (o.eql L (.int .i64 0) fun aj =>
 (o.guard aj
 (o.eql S (.int .i64 0) fun ak =>
 (o.guard ak
 (o.eql Y (.int .i64 0) fun al =>
 (o.guard al
 (o.eql ac (.int .i64 0) fun am =>
 (o.guard am
 (o.lload 0 2 true (.box T) fun an =>
 o.call (C 17 [an] a) fun ap l =>
 o.eql ap (.str [45, 50]) fun aq =>
 (o.guard aq
 (o.lload 0 1 true (.box Z) fun ar =>
 o.lload 0 1 true (.box ad) fun as =>
 o.call (C 26 [ar, as] l) fun au c =>
 (o.guard au
 (o.eql ag (.int .i64 50) fun av =>
 (o.guard av
 (o.lload 0 1 true (.box b) fun aw =>
 o.call (C 27 [aw, (.int .i64 0), (.int .i64 0)] c) fun ax ay =>
 o.call (C 17 [ax] ay) fun az aA =>
 o.eql az (.str [50]) fun aB =>
 (f4_j1 o K C aB aA))
 ((f4_j1 o K C (.bool false) c))
 (none)))
 ((f4_j1 o K C (.bool false) c))
 (none)))
 ((f4_j1 o K C (.bool false) l))
 (none)))
 ((f4_j1 o K C (.bool false) a))
 (none)))
 ((f4_j1 o K C (.bool false) a))
 (none)))
 ((f4_j1 o K C (.bool false) a))
 (none)))
 ((f4_j1 o K C (.bool false) a))
 (none)))
 ((f4_j1 o K C (.bool false) a))
 (none)))
 ((f4_j1 o K C (.bool false) a))
 (none))
def f5_l7 (o : Ops) (K : Nat) (C : CallC) (m : SV -> SV -> SV -> SV -> SV -> SV -> SV -> Heap -> Rs) : SV -> SV -> SV -> SV -> SV -> SV -> SV -> SV -> SV -> SV -> Heap -> (SV -> SV -> SV -> SV -> SV -> SV -> SV -> SV -> SV -> SV -> Heap -> Rs) -> Rs := fun c d e f g h i j k b a n =>
 o.lss b k fun p =>
 (o.cond p
 (o.idx 1 j b fun q =>
 o.load 1 false q a fun r =>
 o.slen r fun s =>
 o.add d s fun l =>
 o.gtr l (.int .i64 16384) fun t =>
 (o.cond t
 (some ((.bool true), a))
 (o.add b (.int .i64 1) fun u =>
 n c l e f g h i j k u a)))
 (o.add i (.int .i64 1) fun v =>
 m c d e f g h v a))
def f5_l4 (o : Ops) (K : Nat) (C : CallC) (j : SV -> SV -> SV -> SV -> Heap -> Rs) : SV -> SV -> SV -> SV -> SV -> SV -> SV -> Heap -> (SV -> SV -> SV -> SV -> SV -> SV -> SV -> Heap -> Rs) -> Rs := fun d e f g h i b a k =>
 o.lss b i fun l =>
 (o.cond l
 (o.idx 1 h b fun m =>
 o.load 1 false m a fun c =>
 o.len c fun n =>
 o.gtr n (.int .i64 100) fun p =>
 (o.cond p
 (some ((.bool true), a))
 (o.len c fun q =>
 (o.loop10 (f5_l7 o K C k) K d e f g h i b c q (.int .i64 0) a))))
 (o.add g (.int .i64 1) fun r =>
 j d e f r a))
def f5_l1 (o : Ops) (K : Nat) (C : CallC) : SV -> SV -> SV -> SV -> Heap -> (SV -> SV -> SV -> SV -> Heap -> Rs) -> Rs := fun c f d b a g =>
 o.lss b d fun h =>
 (o.cond h
 (o.idx 1 c b fun i =>
 o.load 1 false i a fun j =>
 o.len j fun k =>
 o.gtr k (.int .i64 100) fun l =>
 (o.cond l
 (some ((.bool true), a))
 (o.idx 1 c b fun m =>
 o.load 1 false m a fun e =>
 o.len e fun n =>
 (o.loop7 (f5_l4 o K C g) K c f d b e n (.int .i64 0) a))))
 (some ((.bool false), a)))
def f5 (o : Ops) (K : Nat) (C : CallC) (a : SV) (H : Heap) : Rs :=
 o.len a fun b =>
 (o.loop4 (f5_l1 o K C) K a (.int .i64 0) b (.int .i64 0) H)
def f6_l8 (o : Ops) (K : Nat) (C : CallC) (n : SV -> SV -> SV -> SV -> SV -> SV -> SV -> SV -> SV -> Heap -> Rs) : SV -> SV -> SV -> SV -> SV -> SV -> SV -> SV -> SV -> SV -> SV -> SV -> Heap -> (SV -> SV -> SV -> SV -> SV -> SV -> SV -> SV -> SV -> SV -> SV -> SV -> Heap -> Rs) -> Rs := fun d e a f g h i j k l m b c p =>
 o.lss b m fun q =>
 (o.cond q
 (o.idx 1 a j fun r =>
 o.load 1 false r c fun s =>
 o.idx 1 s b fun t =>
 o.store 1 t (.str [115, 112, 111, 105, 108, 116]) c fun u =>
 o.add b (.int .i64 1) fun v =>
 p d e a f g h i j k l m v u)
 (o.add l (.int .i64 1) fun w =>
 n d e a f g h i k w c))
def f6_l5 (o : Ops) (K : Nat) (C : CallC) : SV -> SV -> SV -> SV -> SV -> SV -> SV -> SV -> SV -> Heap -> (SV -> SV -> SV -> SV -> SV -> SV -> SV -> SV -> SV -> Heap -> Rs) -> Rs := fun h e f b i c j k a d l =>
 o.lss a k fun m =>
 (o.cond m
 (o.add a (.int .i64 1) fun n =>
 o.slice110 1 f a n d fun p =>
 o.add a (.int .i64 1) fun q =>
 o.slice110 1 h a q d fun r =>
 o.call (C 30 [p, r] d) fun s g =>
 o.u_not s fun t =>
 (o.cond t
 (o.lload 0 1 true b fun u =>
 o.bstore 0 1 e u fun v =>
 o.resc 1 true (.box v) fun w =>
 o.rest c fun x =>
 some (.tuple [w, x, (.bool false)], g))
 (o.idx 1 f a fun y =>
 o.load 1 false y g fun z =>
 o.len z fun A =>
 (o.loop12 (f6_l8 o K C l) K h e f b i c j a k a A (.int .i64 0) g))))
 (o.lload 0 1 true b fun B =>
 o.lload 0 1 true b fun D =>
 o.call (C 20 [D, i, c, j] d) fun E F =>
 o.bstore 0 1 e B fun G =>
 o.resc 1 true (.box G) fun I =>
 o.rest c fun J =>
 o.rest E fun L =>
 some (.tuple [I, J, L], F)))
def f6_l1 (o : Ops) (K : Nat) (C : CallC) : SV -> SV -> SV -> SV -> SV -> Heap -> (SV -> SV -> SV -> SV -> SV -> Heap -> Rs) -> Rs := fun a e b f c d i =>
 o.lss c f fun j =>
 (o.cond j
 (o.idx 1 a c fun k =>
 o.load 1 false k d fun l =>
 o.append 1 16 (.slice nilSl) l d fun m n =>
 o.hbuild 1 [.slice nilSl] [(0, 1)] [m] n fun p q =>
 o.append 1 24 b p q fun r s =>
 o.add c (.int .i64 1) fun t =>
 i a e r f t s)
 (o.call (C 28 [b] d) fun g u =>
 o.ext 0 g fun v =>
 o.ext 1 g fun w =>
 o.bstore 0 1 (.box [.slice nilSl]) v fun x =>
 o.call (C 29 [a] u) fun h y =>
 o.ext 0 h fun z =>
 o.ext 1 h fun A =>
 o.len b fun B =>
 (o.loop9 (f6_l5 o K C) K a e b (.box x) w z A B (.int .i64 0) y)))
def f6 (o : Ops) (K : Nat) (C : CallC) (a : SV) (H : Heap) : Rs :=
 o.len a fun b =>
 (o.loop5 (f6_l1 o K C) K a (.box [.slice nilSl]) (.slice nilSl) b (.int .i64 0) H)
def f7 (o : Ops) (K : Nat) (C : CallC) (e : SV) (H : Heap) : Rs :=
 o.bbox e fun a =>
 o.lload 0 1 true (.box a) fun f =>
 o.call (C 31 [f] H) fun b c =>
 o.neq b (.int .i64 0) fun g =>
 (o.cond g
 (o.build [.bool false, .slice nilSl] [] [] fun h =>
 o.bstore 0 2 (.box [.bool false, .slice nilSl]) h fun i =>
 o.resc 2 true (.box i) fun j =>
 o.rest b fun k =>
 some (.tuple [j, k], c))
 (o.lload 0 1 true (.box a) fun l =>
 o.call (C 32 [l] c) fun d m =>
 o.ext 0 d fun t =>
 o.ext 1 d fun n =>
 o.bstore 0 2 (.box [.bool false, .slice nilSl]) n fun p =>
 o.lload 0 2 true (.box p) fun q =>
 o.bstore 0 2 (.box [.bool false, .slice nilSl]) q fun r =>
 o.resc 2 true (.box r) fun s =>
 some (.tuple [s, (.int .i64 0)], m)))
def f8_j3 (o : Ops) (K : Nat) (C : CallC) (f b g c h : SV) (a : Heap) : Rs :=
 (o.cond h
 (o.load 1 true c a fun i =>
 o.bstore 0 1 b i fun j =>
 o.resc 1 true (.box j) fun k =>
 o.rest g fun l =>
 some (.tuple [k, l], a))
 (o.lload 0 1 true f fun m =>
 o.call (C 35 [m] a) fun d n =>
 o.ext 0 d fun e =>
 o.ext 1 d fun u =>
 o.mkfn 37 0 [c] fun p =>
 o.call (C 36 [e, e, p] n) fun q r =>
 o.bstore 0 1 b q fun s =>
 o.resc 1 true (.box s) fun t =>
 some (.tuple [t, (.int .i64 0)], r)))
def f8 (o : Ops) (K : Nat) (C : CallC) (k : SV) (H : Heap) : Rs :=
 o.bbox k fun a =>
 o.lload 0 1 true (.box a) fun l =>
 o.call (C 7 [l] H) fun d e =>
 o.ext 0 d fun m =>
 o.ext 1 d fun f =>
 o.bstore 0 2 (.box [.bool false, .slice nilSl]) m fun g =>
 o.neq f (.int .i64 0) fun n =>
 (o.cond n
 (o.build [.slice nilSl] [] [] fun p =>
 o.bstore 0 1 (.box [.slice nilSl]) p fun q =>
 o.resc 1 true (.box q) fun r =>
 o.rest f fun s =>
 some (.tuple [r, s], e))
 (o.lload 0 2 true (.box g) fun t =>
 o.call (C 33 [t] e) fun u v =>
 o.call (C 34 [u] v) fun w h =>
 o.neq w (.int .i64 1) fun x =>
 (o.cond x
 (o.build [.slice nilSl] [] [] fun y =>
 o.bstore 0 1 (.box [.slice nilSl]) y fun z =>
 o.resc 1 true (.box z) fun A =>
 some (.tuple [A, (.int .i64 50)], h))
 (o.lload 0 1 true (.box a) fun B =>
 o.call (C 9 [B] h) fun i D =>
 o.ext 0 i fun E =>
 o.ext 1 i fun b =>
 o.alloc [.slice nilSl] D fun c F =>
 o.store 1 c E F fun j =>
 o.neq b (.int .i64 0) fun G =>
 (o.guard G
 ((f8_j3 o K C (.box a) (.box [.slice nilSl]) b c (.bool true) j))
 (o.lload 0 2 true (.box g) fun I =>
 o.call (C 14 [I] j) fun J L =>
 o.gtr J (.int .i64 0) fun M =>
 (f8_j3 o K C (.box a) (.box [.slice nilSl]) b c M L))
 (none))))))
def f9 (o : Ops) (K : Nat) (C : CallC) (i : SV) (H : Heap) : Rs :=
 o.box i H fun b e =>
 o.load 1 true b e fun j =>
 o.call (C 31 [j] e) fun f c =>
 o.neq f (.int .i64 0) fun k =>
 (o.cond k
 (o.build [.slice nilSl] [] [] fun l =>
 o.bstore 0 1 (.box [.slice nilSl]) l fun m =>
 o.resc 1 true (.box m) fun n =>
 o.rest f fun p =>
 some (.tuple [n, p], c))
 (o.load 1 true b c fun q =>
 o.call (C 35 [q] c) fun g r =>
 o.ext 0 g fun s =>
 o.ext 1 g fun E =>
 o.alloc [.int .i64 0] r fun a t =>
 o.store 1 a s t fun u =>
 o.alloc [.nilf] u fun h v =>
 o.store 1 h (.fn 39 [] []) v fun d =>
 o.load 1 false a d fun w =>
 o.load 1 false a d fun x =>
 o.mkfn 40 0 [a, b, h] fun y =>
 o.call (C 36 [w, x, y] d) fun z A =>
 o.bstore 0 1 (.box [.slice nilSl]) z fun B =>
 o.resc 1 true (.box B) fun D =>
 some (.tuple [D, (.int .i64 0)], A)))
def f10 (o : Ops) (K : Nat) (C : CallC) (d : SV) (H : Heap) : Rs :=
 o.bbox d fun a =>
 o.lload 0 1 true (.box a) fun e =>
 o.call (C 43 [e] H) fun f b =>
 (o.cond f
 (some (.tuple [(.int .i64 0), (.int .i64 3)], b))
 (o.lload 0 1 true (.box a) fun g =>
 o.call (C 32 [g] b) fun c h =>
 o.ext 0 c fun i =>
 o.ext 1 c fun j =>
 o.bstore 0 2 (.box [.bool false, .slice nilSl]) j fun l =>
 o.rest i fun k =>
 some (.tuple [k, (.int .i64 0)], h)))
def f11_l3 (o : Ops) (K : Nat) (C : CallC) (f : SV -> SV -> SV -> Heap -> Rs) : SV -> SV -> SV -> SV -> Heap -> (SV -> SV -> SV -> SV -> Heap -> Rs) -> Rs := fun b e c d a g =>
 o.idx 1 b c fun h =>
 o.load 1 false h a fun i =>
 o.len i fun j =>
 o.lss d j fun k =>
 (o.cond k
 (o.idx 1 b c fun l =>
 o.load 1 false l a fun m =>
 o.idx 2 m d fun n =>
 o.fld 1 n fun p =>
 o.load 1 false p a fun q =>
 o.call (C 44 [q] a) fun r s =>
 o.max [e, r] fun t =>
 o.add d (.int .i64 1) fun u =>
 g b t c u s)
 (o.add c (.int .i64 1) fun v =>
 f b e v a))
def f11_l1 (o : Ops) (K : Nat) (C : CallC) : SV -> SV -> SV -> Heap -> (SV -> SV -> SV -> Heap -> Rs) -> Rs := fun a b c d f =>
 o.len a fun g =>
 o.lss c g fun h =>
 (o.cond h
 ((o.loop4 (f11_l3 o K C f) K a b c (.int .i64 0) d))
 (o.len a fun i =>
 o.call (C 13 [a] d) fun j k =>
 o.min [i, j] fun e =>
 o.conv .u64 e fun l =>
 o.call (C 45 [l] k) fun m n =>
 o.call (C 44 [m] n) fun p q =>
 o.mul (.int .i64 2) e fun r =>
 o.add b p fun s =>
 o.mul r s fun t =>
 o.gtr t (.int .i64 4096) fun u =>
 o.rest u fun v =>
 some (v, q)))
def f11 (o : Ops) (K : Nat) (C : CallC) (a : SV) (H : Heap) : Rs :=
 (o.loop3 (f11_l1 o K C) K a (.int .i64 0) (.int .i64 0) H)
def f12 (o : Ops) (K : Nat) (C : CallC) (b : SV) (H : Heap) : Rs :=
 o.call (C 46 [b] H) fun a c =>
 o.ext 0 a fun d =>
 o.ext 1 a fun e =>
 o.bstore 0 2 (.box [.bool false, .slice nilSl]) e fun g =>
 o.rest d fun f =>
 some (f, c)
def f13 (o : Ops) (K : Nat) (C : CallC) (a : SV) (H : Heap) : Rs :=
 o.len a fun b =>
 o.eql b (.int .i64 0) fun c =>
 (o.cond c
 (some ((.int .i64 0), H))
 (o.idx 1 a (.int .i64 0) fun d =>
 o.load 1 false d H fun e =>
 o.len e fun f =>
 o.rest f fun g =>
 some (g, H)))
def f14 (o : Ops) (K : Nat) (C : CallC) (c : SV) (H : Heap) : Rs :=
 o.bbox c fun a =>
 o.lfld 1 (.box a) fun d =>
 o.lloadp 1 true (.box a) d fun e =>
 o.call (C 34 [e] H) fun f b =>
 o.eql f (.int .i64 0) fun g =>
 (o.cond g
 (some ((.int .i64 0), b))
 (o.lfld 0 (.box a) fun h =>
 o.lloadp 1 false (.box a) h fun i =>
 (o.cond i
 (some ((.int .i64 (-1)), b))
 (some ((.int .i64 1), b)))))
def f15_l3 (o : Ops) (K : Nat) (C : CallC) (j : SV -> SV -> SV -> SV -> Heap -> Rs) : SV -> SV -> SV -> SV -> SV -> SV -> SV -> SV -> Heap -> (SV -> SV -> SV -> SV -> SV -> SV -> SV -> SV -> Heap -> Rs) -> Rs := fun c d e f g h i a b k =>
 o.lss a i fun l =>
 (o.cond l
 (o.idx 2 h a fun m =>
 o.load 2 true m b fun n =>
 o.bstore 0 2 (.box [.bool false, .slice nilSl]) n fun p =>
 o.lload 0 2 true (.box p) fun q =>
 o.call (C 17 [q] b) fun r s =>
 o.hbuild 1 [.str []] [(0, 1)] [r] s fun t u =>
 o.append 1 16 d t u fun v w =>
 o.add a (.int .i64 1) fun x =>
 k c v e f g h i x w)
 (o.hbuild 1 [.slice nilSl] [(0, 1)] [d] b fun y z =>
 o.append 1 24 c y z fun A B =>
 o.add g (.int .i64 1) fun D =>
 j A e f D B))
def f15_l1 (o : Ops) (K : Nat) (C : CallC) : SV -> SV -> SV -> SV -> Heap -> (SV -> SV -> SV -> SV -> Heap -> Rs) -> Rs := fun c d e a b g =>
 o.lss a e fun h =>
 (o.cond h
 (o.idx 1 d a fun i =>
 o.load 1 false i b fun f =>
 o.len f fun j =>
 (o.loop8 (f15_l3 o K C g) K c (.slice nilSl) d e a f j (.int .i64 0) b))
 (o.rest c fun k =>
 some (k, b)))
def f15 (o : Ops) (K : Nat) (C : CallC) (c : SV) (H : Heap) : Rs :=
 o.bbox c fun a =>
 o.lfld 0 (.box a) fun d =>
 o.lloadp 1 false (.box a) d fun b =>
 o.len b fun e =>
 (o.loop4 (f15_l1 o K C) K (.slice nilSl) b e (.int .i64 0) H)
def f16 (o : Ops) (K : Nat) (C : CallC) (b : SV) (H : Heap) : Rs :=
 o.call (C 46 [b] H) fun a c =>
 o.ext 0 a fun i =>
 o.ext 1 a fun d =>
 o.bstore 0 2 (.box [.bool false, .slice nilSl]) d fun e =>
 o.lload 0 2 true (.box e) fun f =>
 o.bstore 0 2 (.box [.bool false, .slice nilSl]) f fun g =>
 o.resc 2 true (.box g) fun h =>
 some (h, c)
def f17 (o : Ops) (K : Nat) (C : CallC) (b : SV) (H : Heap) : Rs :=
 o.bbox b fun a =>
 o.lfld 0 (.box a) fun c =>
 o.lloadp 1 false (.box a) c fun d =>
 (o.cond d
 (o.lfld 1 (.box a) fun e =>
 o.lloadp 1 true (.box a) e fun f =>
 o.call (C 47 [f] H) fun g h =>
 o.add (.str [45]) g fun i =>
 o.rest i fun j =>
 some (j, h))
 (o.lfld 1 (.box a) fun k =>
 o.lloadp 1 true (.box a) k fun l =>
 o.call (C 47 [l] H) fun m n =>
 o.rest m fun p =>
 some (p, n)))
def f18_j2 (o : Ops) (K : Nat) (C : CallC) (a : SV) (b : Heap) : Rs :=
 o.rest a fun c =>
 some (c, b)
def f18_j1 (o : Ops) (K : Nat) (C : CallC) (a c : SV) (b : Heap) : Rs :=
 (o.cond c
 (o.add (.str [45]) a fun d =>
 (f18_j2 o K C d b))
 ((f18_j2 o K C a b)))
def f18 (o : Ops) (K : Nat) (C : CallC) (d : SV) (H : Heap) : Rs :=
 o.bbox d fun a =>
 o.lfld 1 (.box a) fun e =>
 o.lloadp 1 false (.box a) e fun f =>
 o.call (C 48 [f] H) fun b c =>
 o.lfld 0 (.box a) fun g =>
 o.lloadp 1 false (.box a) g fun h =>
 (o.guard h
 (o.lfld 1 (.box a) fun i =>
 o.lloadp 1 false (.box a) i fun j =>
 o.len j fun k =>
 o.gtr k (.int .i64 0) fun l =>
 (f18_j1 o K C b l c))
 ((f18_j1 o K C b (.bool false) c))
 (none))
def f19_j1 (o : Ops) (K : Nat) (C : CallC) (a : SV) (b : Heap) : Rs :=
 o.rest a fun c =>
 some (c, b)
def f19 (o : Ops) (K : Nat) (C : CallC) (b : SV) (H : Heap) : Rs :=
 o.bbox b fun a =>
 o.lfld 1 (.box a) fun c =>
 o.lloadp 1 false (.box a) c fun d =>
 o.len d fun e =>
 o.eql e (.int .i64 1) fun f =>
 (o.guard f
 (o.lfld 1 (.box a) fun g =>
 o.lloadp 1 false (.box a) g fun h =>
 o.idx 1 h (.int .i64 0) fun i =>
 o.load 1 false i H fun j =>
 o.eql j (.int .u32 1) fun k =>
 (f19_j1 o K C k H))
 ((f19_j1 o K C (.bool false) H))
 (none))
def f20_j1 (o : Ops) (K : Nat) (C : CallC) (a : SV) (b : Heap) : Rs :=
 o.rest a fun c =>
 some (c, b)
def f20_j3 (o : Ops) (K : Nat) (C : CallC) (a : SV) (b : Heap) : Rs :=
 o.rest a fun c =>
 some (c, b)
def f20 (o : Ops) (K : Nat) (C : CallC) (d a e b : SV) (H : Heap) : Rs :=
 o.bbox d fun c =>
 o.neq b (.int .i64 0) fun f =>
 (o.cond f
 (o.eql a b fun g =>
 (o.guard g
 (o.lload 0 1 true (.box c) fun h =>
 o.call (C 15 [h] H) fun i j =>
 o.len i fun k =>
 o.eql k (.int .i64 0) fun l =>
 (f20_j1 o K C l j))
 ((f20_j1 o K C (.bool false) H))
 (none)))
 (o.eql a (.int .i64 0) fun m =>
 (o.guard m
 (o.lload 0 1 true (.box c) fun n =>
 o.call (C 15 [n] H) fun p q =>
 o.call (C 49 [e] q) fun r s =>
 o.call (C 30 [p, r] s) fun t u =>
 (f20_j3 o K C t u))
 ((f20_j3 o K C (.bool false) H))
 (none))))
def f21_j5 (o : Ops) (K : Nat) (C : CallC) (a : SV -> SV -> SV -> SV -> SV -> Heap -> Rs) (b c d e f g : SV) (h : Heap) : Rs :=
 o.lload 0 2 true g fun i =>
 o.hbuild 2 [.bool false, .slice nilSl] [(0, 2)] [i] h fun j k =>
 o.append 2 32 e j k fun l m =>
 o.add f (.int .i64 1) fun n =>
 a b c d l n m
def f21_l3 (o : Ops) (K : Nat) (C : CallC) (j : SV -> SV -> SV -> Heap -> Rs) : SV -> SV -> SV -> SV -> SV -> Heap -> (SV -> SV -> SV -> SV -> SV -> Heap -> Rs) -> Rs := fun a d b e c g h =>
 o.len a fun k =>
 o.lss c k fun l =>
 (o.cond l
 (o.call (C 50 [a, c, b] g) fun m n =>
 o.call (C 16 [m] n) fun p i =>
 o.bstore 0 2 (.box [.bool false, .slice nilSl]) p fun f =>
 o.add b c fun q =>
 o.rem q (.int .i64 2) fun r =>
 o.neq r (.int .i64 0) fun s =>
 (o.cond s
 (o.lload 0 2 true (.box f) fun t =>
 o.call (C 51 [t] i) fun u v =>
 o.bstore 0 2 (.box f) u fun w =>
 (f21_j5 o K C h a d b e c (.box w) v))
 ((f21_j5 o K C h a d b e c (.box f) i))))
 (o.hbuild 1 [.slice nilSl] [(0, 1)] [e] g fun x y =>
 o.append 1 24 d x y fun z A =>
 o.add b (.int .i64 1) fun B =>
 j a z B A))
def f21_l1 (o : Ops) (K : Nat) (C : CallC) : SV -> SV -> SV -> Heap -> (SV -> SV -> SV -> Heap -> Rs) -> Rs := fun a b c d e =>
 o.len a fun f =>
 o.lss c f fun g =>
 (o.cond g
 ((o.loop5 (f21_l3 o K C e) K a b c (.slice nilSl) (.int .i64 0) d))
 (o.rest b fun h =>
 some (h, d)))
def f21 (o : Ops) (K : Nat) (C : CallC) (a : SV) (H : Heap) : Rs :=
 (o.loop3 (f21_l1 o K C) K a (.slice nilSl) (.int .i64 0) H)
def f22_l3 (o : Ops) (K : Nat) (C : CallC) (h : SV -> SV -> SV -> Heap -> Rs) : SV -> SV -> SV -> SV -> Heap -> (SV -> SV -> SV -> SV -> Heap -> Rs) -> Rs := fun e b c d a i =>
 o.len b fun j =>
 o.lss d j fun k =>
 (o.cond k
 (o.idx 1 b c fun f =>
 o.load 1 false f a fun l =>
 o.idx 1 b c fun m =>
 o.load 1 false m a fun n =>
 o.idx 2 n d fun p =>
 o.load 2 true p a fun q =>
 o.lload 0 2 true e fun r =>
 o.call (C 52 [q, r] a) fun s g =>
 o.idx 2 l d fun t =>
 o.store 2 t s g fun u =>
 (o.same f a g (o.add d (.int .i64 1) fun v =>
 i e b c v u)))
 (o.add c (.int .i64 1) fun w =>
 h e b w a))
def f22_l1 (o : Ops) (K : Nat) (C : CallC) : SV -> SV -> SV -> Heap -> (SV -> SV -> SV -> Heap -> Rs) -> Rs := fun d a b c e =>
 o.len a fun f =>
 o.lss b f fun g =>
 (o.cond g
 ((o.loop4 (f22_l3 o K C e) K d a b (.int .i64 0) c))
 (o.rest a fun h =>
 some (h, c)))
def f22 (o : Ops) (K : Nat) (C : CallC) (a b : SV) (H : Heap) : Rs :=
 o.bbox b fun c =>
 o.call (C 21 [a] H) fun d e =>
 (o.loop3 (f22_l1 o K C) K (.box c) d (.int .i64 0) e)
def f23 (o : Ops) (K : Nat) (C : CallC) (d : SV) (H : Heap) : Rs :=
 o.box d H fun b c =>
 o.load 1 false b c fun e =>
 o.call (C 54 [e] c) fun f g =>
 o.call (C 53 [f] g) fun h a =>
 o.u_not h fun i =>
 (o.cond i
 (o.build [.slice nilSl] [] [] fun j =>
 o.bstore 0 1 (.box [.slice nilSl]) j fun k =>
 o.resc 1 true (.box k) fun l =>
 some (.tuple [l, (.int .i64 5)], a))
 (o.load 1 false b a fun m =>
 o.len m fun n =>
 o.eql n (.int .i64 0) fun p =>
 (o.cond p
 (o.build [.slice nilSl] [] [] fun q =>
 o.bstore 0 1 (.box [.slice nilSl]) q fun r =>
 o.resc 1 true (.box r) fun s =>
 some (.tuple [s, (.int .i64 0)], a))
 (o.load 1 false b a fun t =>
 o.len t fun u =>
 o.load 1 false b a fun v =>
 o.idx 1 v (.int .i64 0) fun w =>
 o.load 1 false w a fun x =>
 o.len x fun y =>
 o.mkfn 55 0 [b] fun z =>
 o.call (C 36 [u, y, z] a) fun A B =>
 o.bstore 0 1 (.box [.slice nilSl]) A fun D =>
 o.resc 1 true (.box D) fun E =>
 some (.tuple [E, (.int .i64 0)], B)))))
def f24 (o : Ops) (K : Nat) (C : CallC) (j k : SV) (H : Heap) : Rs :=
 o.box j H fun c l =>
 o.box k l fun d e =>
 o.load 1 true c e fun m =>
 o.call (C 35 [m] e) fun f n =>
 o.ext 0 f fun p =>
 o.ext 1 f fun q =>
 o.alloc [.int .i64 0] n fun a r =>
 o.store 1 a q r fun g =>
 o.load 1 true d g fun s =>
 o.call (C 35 [s] g) fun h b =>
 o.ext 0 h fun t =>
 o.ext 1 h fun u =>
 o.load 1 false a b fun v =>
 o.neq v t fun w =>
 (o.cond w
 (o.build [.slice nilSl] [] [] fun x =>
 o.bstore 0 1 (.box [.slice nilSl]) x fun y =>
 o.resc 1 true (.box y) fun z =>
 some (.tuple [z, (.int .i64 5)], b))
 (o.mkfn 57 0 [a, c, d] fun A =>
 o.call (C 56 [p, u, A] b) fun i B =>
 o.ext 0 i fun D =>
 o.ext 1 i fun E =>
 o.bstore 0 1 (.box [.slice nilSl]) D fun F =>
 o.resc 1 true (.box F) fun G =>
 o.rest E fun I =>
 some (.tuple [G, I], B)))
def f25_j1 (o : Ops) (K : Nat) (C : CallC) (a b d : SV) (c : Heap) : Rs :=
 (o.cond d
 (o.build [.slice nilSl] [] [] fun e =>
 o.bstore 0 1 b e fun f =>
 o.resc 1 true (.box f) fun g =>
 some (.tuple [g, (.int .i64 5)], c))
 (o.call (C 36 [a, a, (.fn 60 [] [])] c) fun h i =>
 o.bstore 0 1 b h fun j =>
 o.resc 1 true (.box j) fun k =>
 some (.tuple [k, (.int .i64 0)], i)))
def f25 (o : Ops) (K : Nat) (C : CallC) (a : SV) (H : Heap) : Rs :=
 o.lss a (.int .i64 0) fun b =>
 (o.guard b
 ((f25_j1 o K C a (.box [.slice nilSl]) (.bool true) H))
 (o.gtr a (.int .i64 16) fun c =>
 (f25_j1 o K C a (.box [.slice nilSl]) c H))
 (none))
def f26_l5 (o : Ops) (K : Nat) (C : CallC) (k : SV -> SV -> SV -> SV -> SV -> Heap -> Rs) : SV -> SV -> SV -> SV -> SV -> SV -> SV -> SV -> Heap -> (SV -> SV -> SV -> SV -> SV -> SV -> SV -> SV -> Heap -> Rs) -> Rs := fun b c f e g h i d a l =>
 o.lss d i fun m =>
 (o.cond m
 (o.lfld 0 b fun n =>
 o.lloadp 1 false b n fun p =>
 o.idx 1 p e fun q =>
 o.load 1 false q a fun r =>
 o.idx 2 r d fun s =>
 o.load 2 true s a fun t =>
 o.lfld 0 c fun u =>
 o.lloadp 1 false c u fun v =>
 o.idx 1 v e fun w =>
 o.load 1 false w a fun x =>
 o.idx 2 x d fun y =>
 o.load 2 true y a fun z =>
 o.call (C 61 [t, z] a) fun A j =>
 o.neq A (.int .i64 0) fun B =>
 (o.cond B
 (some ((.bool false), j))
 (o.add d (.int .i64 1) fun D =>
 l b c f e g h i D j)))
 (o.add h (.int .i64 1) fun E =>
 k b c f g E a))
def f26_l3 (o : Ops) (K : Nat) (C : CallC) : SV -> SV -> SV -> SV -> SV -> Heap -> (SV -> SV -> SV -> SV -> SV -> Heap -> Rs) -> Rs := fun e f b c a d g =>
 o.lss a c fun h =>
 (o.cond h
 ((o.loop8 (f26_l5 o K C g) K e f b a c a b (.int .i64 0) d))
 (some ((.bool true), d)))
def f26_j1 (o : Ops) (K : Nat) (C : CallC) (b c d e f : SV) (a : Heap) : Rs :=
 (o.cond f
 (some ((.bool false), a))
 ((o.loop5 (f26_l3 o K C) K b c e d (.int .i64 0) a)))
def f26 (o : Ops) (K : Nat) (C : CallC) (h i : SV) (H : Heap) : Rs :=
 o.bbox h fun a =>
 o.bbox i fun b =>
 o.lload 0 1 true (.box a) fun j =>
 o.call (C 35 [j] H) fun e k =>
 o.ext 0 e fun c =>
 o.ext 1 e fun d =>
 o.lload 0 1 true (.box b) fun l =>
 o.call (C 35 [l] k) fun f g =>
 o.ext 0 f fun m =>
 o.ext 1 f fun n =>
 o.neq m c fun p =>
 (o.guard p
 ((f26_j1 o K C (.box a) (.box b) c d (.bool true) g))
 (o.neq n d fun q =>
 (f26_j1 o K C (.box a) (.box b) c d q g))
 (none))
def f27_j1 (o : Ops) (K : Nat) (C : CallC) (d e b c f : SV) (a : Heap) : Rs :=
 (o.cond f
 (o.build [.bool false, .slice nilSl] [] [] fun g =>
 o.bstore 0 2 c g fun h =>
 o.resc 2 true (.box h) fun i =>
 some (i, a))
 (o.lfld 0 b fun j =>
 o.lloadp 1 false b j fun k =>
 o.idx 1 k d fun l =>
 o.load 1 false l a fun m =>
 o.idx 2 m e fun n =>
 o.load 2 true n a fun p =>
 o.bstore 0 2 c p fun q =>
 o.resc 2 true (.box q) fun r =>
 some (r, a)))
def f27 (o : Ops) (K : Nat) (C : CallC) (f a b : SV) (H : Heap) : Rs :=
 o.bbox f fun c =>
 o.lload 0 1 true (.box c) fun g =>
 o.call (C 35 [g] H) fun e d =>
 o.ext 0 e fun h =>
 o.ext 1 e fun i =>
 o.lss a (.int .i64 0) fun j =>
 (o.guard j
 ((f27_j1 o K C a b (.box c) (.box [.bool false, .slice nilSl]) (.bool true) d))
 (o.geq a h fun k =>
 (o.guard k
 ((f27_j1 o K C a b (.box c) (.box [.bool false, .slice nilSl]) (.bool true) d))
 (o.lss b (.int .i64 0) fun l =>
 (o.guard l
 ((f27_j1 o K C a b (.box c) (.box [.bool false, .slice nilSl]) (.bool true) d))
 (o.geq b i fun m =>
 (f27_j1 o K C a b (.box c) (.box [.bool false, .slice nilSl]) m d))
 (none)))
 (none)))
 (none))
def f28 (o : Ops) (K : Nat) (C : CallC) (g : SV) (H : Heap) : Rs :=
 o.box g H fun a f =>
 o.load 1 false a f fun h =>
 o.call (C 62 [h] f) fun i j =>
 o.call (C 53 [i] j) fun k b =>
 o.u_not k fun l =>
 (o.cond l
 (o.build [.slice nilSl] [] [] fun m =>
 o.bstore 0 1 (.box [.slice nilSl]) m fun n =>
 o.resc 1 true (.box n) fun p =>
 some (.tuple [p, (.int .i64 5)], b))
 (o.load 1 false a b fun q =>
 o.len q fun r =>
 o.eql r (.int .i64 0) fun s =>
 (o.cond s
 (o.build [.slice nilSl] [] [] fun t =>
 o.bstore 0 1 (.box [.slice nilSl]) t fun u =>
 o.resc 1 true (.box u) fun v =>
 some (.tuple [v, (.int .i64 0)], b))
 (o.alloc [.int .i64 0] b fun c w =>
 o.store 1 c (.int .i64 0) w fun d =>
 o.load 1 false a d fun x =>
 o.len x fun y =>
 o.load 1 false a d fun z =>
 o.idx 1 z (.int .i64 0) fun A =>
 o.load 1 false A d fun B =>
 o.len B fun D =>
 o.mkfn 63 0 [a, c] fun E =>
 o.call (C 36 [y, D, E] d) fun F e =>
 o.bstore 0 1 (.box [.slice nilSl]) F fun G =>
 o.load 1 false c e fun I =>
 o.neq I (.int .i64 0) fun J =>
 (o.cond J
 (o.build [.slice nilSl] [] [] fun L =>
 o.load 1 false c e fun M =>
 o.bstore 0 1 (.box [.slice nilSl]) L fun N =>
 o.resc 1 true (.box N) fun P =>
 o.rest M fun Q =>
 some (.tuple [P, Q], e))
 (o.lload 0 1 true (.box G) fun S =>
 o.bstore 0 1 (.box [.slice nilSl]) S fun T =>
 o.resc 1 true (.box T) fun U =>
 some (.tuple [U, (.int .i64 0)], e)))))))
def f29_j3 (o : Ops) (K : Nat) (C : CallC) (b : SV -> SV -> Heap -> Rs) (c d e : SV) (a : Heap) : Rs :=
 (o.cond e
 (some (.tuple [(.slice nilSl), (.int .i64 5)], a))
 (o.add d (.int .i64 1) fun f =>
 b c f a))
def f29_l9 (o : Ops) (K : Nat) (C : CallC) (j : SV -> SV -> SV -> Heap -> Rs) : SV -> SV -> SV -> SV -> SV -> Heap -> (SV -> SV -> SV -> SV -> SV -> Heap -> Rs) -> Rs := fun b e c f d a k =>
 o.idx 1 b c fun l =>
 o.load 1 false l a fun m =>
 o.len m fun n =>
 o.lss d n fun p =>
 (o.cond p
 (o.idx 1 b c fun q =>
 o.load 1 false q a fun r =>
 o.idx 1 r d fun s =>
 o.load 1 false s a fun t =>
 o.call (C 66 [t] a) fun g h =>
 o.ext 0 g fun u =>
 o.ext 1 g fun i =>
 o.bstore 0 2 (.box [.bool false, .slice nilSl]) u fun v =>
 o.neq i (.int .i64 0) fun w =>
 (o.cond w
 (o.rest i fun x =>
 some (.tuple [(.slice nilSl), x], h))
 (o.lload 0 2 true (.box v) fun y =>
 o.hbuild 2 [.bool false, .slice nilSl] [(0, 2)] [y] h fun z A =>
 o.append 2 32 f z A fun B D =>
 o.add d (.int .i64 1) fun E =>
 k b e c B E D)))
 (o.hbuild 1 [.slice nilSl] [(0, 1)] [f] a fun F G =>
 o.append 1 24 e F G fun I J =>
 o.add c (.int .i64 1) fun L =>
 j b I L J))
def f29_l7 (o : Ops) (K : Nat) (C : CallC) : SV -> SV -> SV -> Heap -> (SV -> SV -> SV -> Heap -> Rs) -> Rs := fun a b c d e =>
 o.len a fun f =>
 o.lss c f fun g =>
 (o.cond g
 ((o.loop5 (f29_l9 o K C e) K a b c (.slice nilSl) (.int .i64 0) d))
 (o.rest b fun h =>
 some (.tuple [h, (.int .i64 0)], d)))
def f29_l1 (o : Ops) (K : Nat) (C : CallC) : SV -> SV -> Heap -> (SV -> SV -> Heap -> Rs) -> Rs := fun a b d e =>
 o.len a fun f =>
 o.lss b f fun g =>
 (o.cond g
 (o.len a fun h =>
 o.idx 1 a b fun i =>
 o.load 1 false i d fun j =>
 o.len j fun k =>
 o.call (C 65 [h, k] d) fun l c =>
 o.u_not l fun m =>
 (o.guard m
 ((f29_j3 o K C e a b (.bool true) c))
 (o.idx 1 a b fun n =>
 o.load 1 false n c fun p =>
 o.len p fun q =>
 o.idx 1 a (.int .i64 0) fun r =>
 o.load 1 false r c fun s =>
 o.len s fun t =>
 o.neq q t fun u =>
 (f29_j3 o K C e a b u c))
 (none)))
 ((o.loop3 (f29_l7 o K C) K a (.slice nilSl) (.int .i64 0) d)))
def f29 (o : Ops) (K : Nat) (C : CallC) (a : SV) (H : Heap) : Rs :=
 (o.loop2 (f29_l1 o K C) K a (.int .i64 0) H)
def f30_l5 (o : Ops) (K : Nat) (C : CallC) (i : SV -> SV -> SV -> SV -> Heap -> Rs) : SV -> SV -> SV -> SV -> SV -> SV -> SV -> Heap -> (SV -> SV -> SV -> SV -> SV -> SV -> SV -> Heap -> Rs) -> Rs := fun c d e f g h b a j =>
 o.lss b h fun k =>
 (o.cond k
 (o.idx 1 c e fun l =>
 o.load 1 false l a fun m =>
 o.idx 1 m b fun n =>
 o.load 1 false n a fun p =>
 o.idx 1 d e fun q =>
 o.load 1 false q a fun r =>
 o.idx 1 r b fun s =>
 o.load 1 false s a fun t =>
 o.neq p t fun u =>
 (o.cond u
 (some ((.bool false), a))
 (o.add b (.int .i64 1) fun v =>
 j c d e f g h v a)))
 (o.add g (.int .i64 1) fun w =>
 i c d f w a))
def f30_l2 (o : Ops) (K : Nat) (C : CallC) : SV -> SV -> SV -> SV -> Heap -> (SV -> SV -> SV -> SV -> Heap -> Rs) -> Rs := fun c d e a b f =>
 o.lss a e fun g =>
 (o.cond g
 (o.idx 1 c a fun h =>
 o.load 1 false h b fun i =>
 o.len i fun j =>
 o.idx 1 d a fun k =>
 o.load 1 false k b fun l =>
 o.len l fun m =>
 o.neq j m fun n =>
 (o.cond n
 (some ((.bool false), b))
 (o.idx 1 c a fun p =>
 o.load 1 false p b fun q =>
 o.len q fun r =>
 (o.loop7 (f30_l5 o K C f) K c d a e a r (.int .i64 0) b))))
 (some ((.bool true), b)))
def f30 (o : Ops) (K : Nat) (C : CallC) (a b : SV) (H : Heap) : Rs :=
 o.len a fun c =>
 o.len b fun d =>
 o.neq c d fun e =>
 (o.cond e
 (some ((.bool false), H))
 (o.len a fun f =>
 (o.loop4 (f30_l2 o K C) K a b f (.int .i64 0) H)))
def f31 (o : Ops) (K : Nat) (C : CallC) (e : SV) (H : Heap) : Rs :=
 o.bbox e fun a =>
 o.lload 0 1 true (.box a) fun f =>
 o.call (C 35 [f] H) fun b c =>
 o.ext 0 b fun g =>
 o.ext 1 b fun h =>
 o.neq g h fun i =>
 (o.cond i
 (some ((.int .i64 5), c))
 (o.lload 0 1 true (.box a) fun j =>
 o.call (C 43 [j] c) fun k d =>
 (o.cond k
 (some ((.int .i64 3), d))
 (some ((.int .i64 0), d)))))
def f32_j9 (o : Ops) (K : Nat) (C : CallC) (a : SV -> SV -> SV -> SV -> SV -> SV -> SV -> SV -> Heap -> Rs) (b c d e f g h i : SV) (j : Heap) : Rs :=
 o.add i (.int .i64 1) fun k =>
 a b c d e f g h k j
def f32_l14 (o : Ops) (K : Nat) (C : CallC) (u : SV -> SV -> SV -> SV -> SV -> SV -> SV -> SV -> SV -> Heap -> Rs) : SV -> SV -> SV -> SV -> SV -> SV -> SV -> SV -> SV -> SV -> Heap -> (SV -> SV -> SV -> SV -> SV -> SV -> SV -> SV -> SV -> SV -> Heap -> Rs) -> Rs := fun k l h a i m g d c e b v =>
 o.lss e h fun w =>
 (o.cond w
 (o.idx 1 a g fun x =>
 o.load 1 false x b fun y =>
 o.idx 2 y d fun z =>
 o.load 2 true z b fun A =>
 o.idx 1 a c fun B =>
 o.load 1 false B b fun D =>
 o.idx 2 D e fun E =>
 o.load 2 true E b fun F =>
 o.call (C 58 [A, F] b) fun n f =>
 o.ext 0 n fun G =>
 o.ext 1 n fun ap =>
 o.bstore 0 2 (.box [.bool false, .slice nilSl]) G fun I =>
 o.idx 1 a c fun J =>
 o.load 1 false J f fun L =>
 o.idx 2 L d fun M =>
 o.load 2 true M f fun N =>
 o.idx 1 a g fun P =>
 o.load 1 false P f fun Q =>
 o.idx 2 Q e fun S =>
 o.load 2 true S f fun T =>
 o.call (C 58 [N, T] f) fun p U =>
 o.ext 0 p fun V =>
 o.ext 1 p fun aq =>
 o.bstore 0 2 (.box [.bool false, .slice nilSl]) V fun W =>
 o.lload 0 2 true (.box I) fun X =>
 o.lload 0 2 true (.box W) fun Y =>
 o.call (C 67 [X, Y] U) fun q j =>
 o.ext 0 q fun Z =>
 o.ext 1 q fun ar =>
 o.bstore 0 2 (.box [.bool false, .slice nilSl]) Z fun aa =>
 o.idx 1 a c fun r =>
 o.load 1 false r j fun ab =>
 o.lload 0 2 true (.box aa) fun ac =>
 o.lload 0 2 true i fun ad =>
 o.call (C 68 [ac, ad] j) fun s t =>
 o.ext 0 s fun ae =>
 o.ext 1 s fun as =>
 o.idx 2 ab e fun af =>
 o.store 2 af ae t fun ag =>
 (o.same r j t (o.add e (.int .i64 1) fun ah =>
 v k l h a i m g d c ah ag)))
 (o.idx 1 a c fun ai =>
 o.load 1 false ai b fun aj =>
 o.build [.bool false, .slice nilSl] [] [] fun ak =>
 o.idx 2 aj d fun al =>
 o.store 2 al ak b fun am =>
 o.add c (.int .i64 1) fun an =>
 u k l h a i m g d an am))
def f32_l12 (o : Ops) (K : Nat) (C : CallC) (k : SV -> SV -> SV -> SV -> SV -> SV -> SV -> SV -> Heap -> Rs) : SV -> SV -> SV -> SV -> SV -> SV -> SV -> SV -> SV -> Heap -> (SV -> SV -> SV -> SV -> SV -> SV -> SV -> SV -> SV -> Heap -> Rs) -> Rs := fun f c g d h i e a j b l =>
 o.lss j c fun m =>
 (o.cond m
 (o.add a (.int .i64 1) fun n =>
 (o.loop10 (f32_l14 o K C l) K f c g d h i e a j n b))
 (o.idx 1 d e fun p =>
 o.load 1 false p b fun q =>
 o.idx 2 q a fun r =>
 o.load 2 true r b fun s =>
 o.bstore 0 2 h s fun t =>
 o.add e (.int .i64 1) fun u =>
 (f32_j9 o K C k f c g d (.box t) i u a b)))
def f32_j11 (o : Ops) (K : Nat) (C : CallC) (b : SV -> SV -> SV -> SV -> SV -> SV -> SV -> SV -> Heap -> Rs) (c d e f g h a i : SV) (j : Heap) : Rs :=
 o.add a (.int .i64 1) fun k =>
 (o.loop9 (f32_l12 o K C b) K c d e f g h a i k j)
def f32_j5 (o : Ops) (K : Nat) (C : CallC) (k : SV -> SV -> SV -> SV -> SV -> SV -> SV -> SV -> Heap -> Rs) (l : SV -> SV -> SV -> SV -> SV -> SV -> SV -> SV -> SV -> Heap -> Rs) (f d g a h i b j e m : SV) (c : Heap) : Rs :=
 (o.cond m
 (o.add e (.int .i64 1) fun n =>
 l f d g a h i b j n c)
 (o.eql e d fun p =>
 (o.cond p
 ((f32_j9 o K C k f d g a h i b j c))
 (o.neq e b fun q =>
 (o.cond q
 (o.idx 1 a b fun r =>
 o.load 1 false r c fun s =>
 o.idx 1 a e fun t =>
 o.load 1 false t c fun u =>
 o.idx 1 a e fun v =>
 o.store 1 v s c fun w =>
 o.idx 1 a b fun x =>
 o.store 1 x u w fun y =>
 o.u_neg i fun z =>
 (f32_j11 o K C k f d g a h z b j y))
 ((f32_j11 o K C k f d g a h i b j c)))))))
def f32_l4 (o : Ops) (K : Nat) (C : CallC) (f : SV -> SV -> SV -> SV -> SV -> SV -> SV -> SV -> Heap -> Rs) : SV -> SV -> SV -> SV -> SV -> SV -> SV -> SV -> SV -> Heap -> (SV -> SV -> SV -> SV -> SV -> SV -> SV -> SV -> SV -> Heap -> Rs) -> Rs := fun g c h d i j k e a b l =>
 o.lss a c fun m =>
 (o.guard m
 (o.idx 1 d a fun n =>
 o.load 1 false n b fun p =>
 o.idx 2 p e fun q =>
 o.load 2 true q b fun r =>
 o.call (C 14 [r] b) fun s t =>
 o.eql s (.int .i64 0) fun u =>
 (f32_j5 o K C f l g c h d i j k e a u t))
 ((f32_j5 o K C f l g c h d i j k e a (.bool false) b))
 (none))
def f32_j2 (o : Ops) (K : Nat) (C : CallC) (g : SV -> SV -> SV -> SV -> SV -> SV -> SV -> SV -> Heap -> Rs) (b e h i d f a j k : SV) (c : Heap) : Rs :=
 (o.cond k
 ((o.loop9 (f32_l4 o K C g) K b e h i d f a j a c))
 (o.lss a e fun l =>
 (o.cond l
 (o.build [.bool false, .slice nilSl] [] [] fun m =>
 o.bstore 0 2 b m fun n =>
 o.rest a fun p =>
 o.resc 2 true (.box n) fun q =>
 some (.tuple [p, q], c))
 (o.lss f (.int .i64 0) fun r =>
 (o.cond r
 (o.lload 0 2 true d fun s =>
 o.call (C 38 [s] c) fun t u =>
 o.bstore 0 2 b t fun v =>
 o.rest a fun w =>
 o.resc 2 true (.box v) fun x =>
 some (.tuple [w, x], u))
 (o.lload 0 2 true d fun y =>
 o.bstore 0 2 b y fun z =>
 o.rest a fun A =>
 o.resc 2 true (.box z) fun B =>
 some (.tuple [A, B], c)))))))
def f32_l1 (o : Ops) (K : Nat) (C : CallC) : SV -> SV -> SV -> SV -> SV -> SV -> SV -> SV -> Heap -> (SV -> SV -> SV -> SV -> SV -> SV -> SV -> SV -> Heap -> Rs) -> Rs := fun e a b f g h c d i j =>
 o.lss d b fun k =>
 (o.guard k
 (o.lss c a fun l =>
 (f32_j2 o K C j e a b f g h c d l i))
 ((f32_j2 o K C j e a b f g h c d (.bool false) i))
 (none))
def f32 (o : Ops) (K : Nat) (C : CallC) (e : SV) (H : Heap) : Rs :=
 o.bbox e fun a =>
 o.lload 0 1 true (.box a) fun f =>
 o.call (C 35 [f] H) fun b g =>
 o.ext 0 b fun c =>
 o.ext 1 b fun d =>
 o.lload 0 1 true (.box a) fun h =>
 o.mkfn 27 1 [h] fun i =>
 o.call (C 36 [c, d, i] g) fun j k =>
 o.fieldv 0 1 false j fun l =>
 o.call (C 42 [(.int .i64 1)] k) fun m n =>
 o.bstore 0 2 (.box [.bool false, .slice nilSl]) m fun p =>
 (o.loop8 (f32_l1 o K C) K (.box [.bool false, .slice nilSl]) c d l (.box p) (.int .i64 1) (.int .i64 0) (.int .i64 0) n)
def f33 (o : Ops) (K : Nat) (C : CallC) (b : SV) (H : Heap) : Rs :=
 o.bbox b fun a =>
 o.lfld 1 (.box a) fun c =>
 o.lloadp 1 true (.box a) c fun d =>
 o.bstore 0 1 (.box [.slice nilSl]) d fun e =>
 o.resc 1 true (.box e) fun f =>
 some (f, H)
def f34 (o : Ops) (K : Nat) (C : CallC) (b : SV) (H : Heap) : Rs :=
 o.bbox b fun a =>
 o.lfld 0 (.box a) fun c =>
 o.lloadp 1 false (.box a) c fun d =>
 o.len d fun e =>
 o.eql e (.int .i64 0) fun f =>
 (o.cond f
 (some ((.int .i64 0), H))
 (o.lfld 0 (.box a) fun g =>
 o.lloadp 1 false (.box a) g fun h =>
 o.len h fun i =>
 o.sub i (.int .i64 1) fun j =>
 o.mul (.int .i64 32) j fun k =>
 o.lfld 0 (.box a) fun l =>
 o.lloadp 1 false (.box a) l fun m =>
 o.lfld 0 (.box a) fun n =>
 o.lloadp 1 false (.box a) n fun p =>
 o.len p fun q =>
 o.sub q (.int .i64 1) fun r =>
 o.idx 1 m r fun s =>
 o.load 1 false s H fun t =>
 o.call (C 69 [t] H) fun u v =>
 o.add k u fun w =>
 o.rest w fun x =>
 some (x, v)))
def f35 (o : Ops) (K : Nat) (C : CallC) (b : SV) (H : Heap) : Rs :=
 o.bbox b fun a =>
 o.lfld 0 (.box a) fun c =>
 o.lloadp 1 false (.box a) c fun d =>
 o.len d fun e =>
 o.eql e (.int .i64 0) fun f =>
 (o.cond f
 (some (.tuple [(.int .i64 0), (.int .i64 0)], H))
 (o.lfld 0 (.box a) fun g =>
 o.lloadp 1 false (.box a) g fun h =>
 o.len h fun i =>
 o.lfld 0 (.box a) fun j =>
 o.lloadp 1 false (.box a) j fun k =>
 o.idx 1 k (.int .i64 0) fun l =>
 o.load 1 false l H fun m =>
 o.len m fun n =>
 o.rest i fun p =>
 o.rest n fun q =>
 some (.tuple [p, q], H)))
def f36_l3 (o : Ops) (K : Nat) (C : CallC) (l : SV -> SV -> SV -> SV -> SV -> SV -> Heap -> Rs) : SV -> SV -> SV -> SV -> SV -> SV -> SV -> SV -> SV -> SV -> Heap -> (SV -> SV -> SV -> SV -> SV -> SV -> SV -> SV -> SV -> SV -> Heap -> Rs) -> Rs := fun d b e f g c h i j a k m =>
 o.lss a j fun n =>
 (o.cond n
 (o.callv C [b, g, a] k fun p q =>
 o.idx 2 c a fun r =>
 o.store 2 r p q fun s =>
 o.add a (.int .i64 1) fun t =>
 m d b e f g c h i j t s)
 (o.hbuild 1 [.slice nilSl] [(0, 1)] [c] k fun u v =>
 o.append 1 24 f u v fun w x =>
 o.add i (.int .i64 1) fun y =>
 l d b e w h y x))
def f36_l1 (o : Ops) (K : Nat) (C : CallC) : SV -> SV -> SV -> SV -> SV -> SV -> Heap -> (SV -> SV -> SV -> SV -> SV -> SV -> Heap -> Rs) -> Rs := fun a h c d e b f i =>
 o.lss b e fun j =>
 (o.cond j
 (o.make 2 32 [.bool false, .slice nilSl] a a f fun g k =>
 o.len g fun l =>
 (o.loop10 (f36_l3 o K C i) K a h c d b g e b l (.int .i64 0) k))
 (o.build [.slice nilSl] [(0, 1)] [d] fun m =>
 o.bstore 0 1 c m fun n =>
 o.resc 1 true (.box n) fun p =>
 some (p, f)))
def f36 (o : Ops) (K : Nat) (C : CallC) (a b c : SV) (H : Heap) : Rs :=
 (o.loop6 (f36_l1 o K C) K b c (.box [.slice nilSl]) (.slice nilSl) a (.int .i64 0) H)
def f37 (o : Ops) (K : Nat) (C : CallC) (a b c : SV) (H : Heap) : Rs :=
 o.fld 0 c fun d =>
 o.load 1 false d H fun e =>
 o.idx 1 e a fun f =>
 o.load 1 false f H fun g =>
 o.idx 2 g b fun h =>
 o.load 2 true h H fun i =>
 o.call (C 38 [i] H) fun j k =>
 o.bstore 0 2 (.box [.bool false, .slice nilSl]) j fun l =>
 o.resc 2 true (.box l) fun m =>
 some (m, k)
def f38 (o : Ops) (K : Nat) (C : CallC) (b : SV) (H : Heap) : Rs :=
 o.bbox b fun a =>
 o.lfld 0 (.box a) fun c =>
 o.lloadp 1 false (.box a) c fun d =>
 o.u_not d fun e =>
 o.lfld 1 (.box a) fun f =>
 o.lloadp 1 true (.box a) f fun g =>
 o.call (C 70 [e, g] H) fun h i =>
 o.bstore 0 2 (.box [.bool false, .slice nilSl]) h fun j =>
 o.resc 2 true (.box j) fun k =>
 some (k, i)
def f39 (o : Ops) (K : Nat) (C : CallC) (a b : SV) (H : Heap) : Rs :=
 o.geq a b fun c =>
 (o.cond c
 (o.add a (.int .i64 1) fun d =>
 o.rest d fun e =>
 some (e, H))
 (o.rest a fun f =>
 some (f, H)))
def f40_j1 (o : Ops) (K : Nat) (C : CallC) (d e b c : SV) (a : Heap) : Rs :=
 o.load 1 false d a fun f =>
 o.load 1 false e a fun g =>
 o.add f g fun h =>
 o.rem h (.int .i64 2) fun i =>
 o.neq i (.int .i64 0) fun j =>
 (o.cond j
 (o.lload 0 2 true c fun k =>
 o.call (C 38 [k] a) fun l m =>
 o.bstore 0 2 b l fun n =>
 o.resc 2 true (.box n) fun p =>
 some (p, m))
 (o.lload 0 2 true c fun q =>
 o.bstore 0 2 b q fun r =>
 o.resc 2 true (.box r) fun s =>
 some (s, a)))
def f40 (o : Ops) (K : Nat) (C : CallC) (h i a j k : SV) (H : Heap) : Rs :=
 o.box h H fun b l =>
 o.box i l fun c d =>
 o.load 1 false a d fun m =>
 o.sub m (.int .i64 1) fun n =>
 o.load 1 false a d fun p =>
 o.sub p (.int .i64 1) fun q =>
 o.mkfn 41 0 [j, k, c, b] fun r =>
 o.call (C 36 [n, q, r] d) fun s t =>
 o.call (C 32 [s] t) fun f e =>
 o.ext 0 f fun A =>
 o.ext 1 f fun u =>
 o.bstore 0 2 (.box [.bool false, .slice nilSl]) u fun g =>
 o.load 1 false a e fun v =>
 o.eql v (.int .i64 1) fun w =>
 (o.cond w
 (o.call (C 42 [(.int .i64 1)] e) fun x y =>
 o.bstore 0 2 (.box g) x fun z =>
 (f40_j1 o K C b c (.box [.bool false, .slice nilSl]) (.box z) y))
 ((f40_j1 o K C b c (.box [.bool false, .slice nilSl]) (.box g) e)))
def f41 (o : Ops) (K : Nat) (C : CallC) (g h i c j e : SV) (H : Heap) : Rs :=
 o.fld 0 i fun d =>
 o.load 1 false d H fun k =>
 o.load 1 false c H fun l =>
 o.load 1 false j H fun m =>
 o.callv C [l, g, m] H fun n a =>
 o.idx 1 k n fun f =>
 o.load 1 false f a fun p =>
 o.load 1 false c a fun q =>
 o.load 1 false e a fun r =>
 o.callv C [q, h, r] a fun s b =>
 o.idx 2 p s fun t =>
 o.load 2 true t b fun u =>
 o.bstore 0 2 (.box [.bool false, .slice nilSl]) u fun v =>
 (o.same d H a ((o.same c H a ((o.same e H a ((o.same d a b ((o.same f a b (o.resc 2 true (.box v) fun w =>
 some (w, b)))))))))))
def f42 (o : Ops) (K : Nat) (C : CallC) (a : SV) (H : Heap) : Rs :=
 o.lss a (.int .i64 0) fun b =>
 (o.cond b
 (o.conv .u64 a fun c =>
 o.u_neg c fun d =>
 o.call (C 71 [d] H) fun e f =>
 o.build [.bool false, .slice nilSl] [(0, 1), (1, 1)] [(.bool true), e] fun g =>
 o.bstore 0 2 (.box [.bool false, .slice nilSl]) g fun h =>
 o.resc 2 true (.box h) fun i =>
 some (i, f))
 (o.conv .u64 a fun j =>
 o.call (C 71 [j] H) fun k l =>
 o.build [.bool false, .slice nilSl] [(1, 1)] [k] fun m =>
 o.bstore 0 2 (.box [.bool false, .slice nilSl]) m fun n =>
 o.resc 2 true (.box n) fun p =>
 some (p, l)))
def f43_l3 (o : Ops) (K : Nat) (C : CallC) (j : SV -> SV -> SV -> SV -> SV -> Heap -> Rs) : SV -> SV -> SV -> SV -> SV -> SV -> SV -> SV -> Heap -> (SV -> SV -> SV -> SV -> SV -> SV -> SV -> SV -> Heap -> Rs) -> Rs := fun c d e f g h i a b k =>
 o.lss a i fun l =>
 (o.cond l
 (o.idx 2 h a fun m =>
 o.load 2 true m b fun n =>
 o.bstore 0 2 (.box [.bool false, .slice nilSl]) n fun p =>
 o.lload 0 2 true (.box p) fun q =>
 o.call (C 33 [q] b) fun r s =>
 o.call (C 34 [r] s) fun t u =>
 o.max [d, t] fun v =>
 o.add a (.int .i64 1) fun w =>
 k c v e f g h i w u)
 (o.add g (.int .i64 1) fun x =>
 j c d e f x b))
def f43_l1 (o : Ops) (K : Nat) (C : CallC) : SV -> SV -> SV -> SV -> SV -> Heap -> (SV -> SV -> SV -> SV -> SV -> Heap -> Rs) -> Rs := fun c d e f a b j =>
 o.lss a f fun k =>
 (o.cond k
 (o.idx 1 e a fun l =>
 o.load 1 false l b fun g =>
 o.len g fun m =>
 (o.loop8 (f43_l3 o K C j) K c d e f a g m (.int .i64 0) b))
 (o.lload 0 1 true c fun n =>
 o.call (C 35 [n] b) fun h p =>
 o.ext 0 h fun q =>
 o.ext 1 h fun r =>
 o.min [q, r] fun i =>
 o.mul (.int .i64 2) i fun s =>
 o.conv .u64 i fun t =>
 o.call (C 72 [t] p) fun u v =>
 o.add d u fun w =>
 o.mul s w fun x =>
 o.gtr x (.int .i64 4096) fun y =>
 o.rest y fun z =>
 some (z, v)))
def f43 (o : Ops) (K : Nat) (C : CallC) (c : SV) (H : Heap) : Rs :=
 o.bbox c fun a =>
 o.lfld 0 (.box a) fun d =>
 o.lloadp 1 false (.box a) d fun b =>
 o.len b fun e =>
 (o.loop5 (f43_l1 o K C) K (.box a) (.int .i64 0) b e (.int .i64 0) H)
def f44_l2 (o : Ops) (K : Nat) (C : CallC) : SV -> SV -> Heap -> (SV -> SV -> Heap -> Rs) -> Rs := fun a b c d =>
 o.gtr b (.int .u32 0) fun e =>
 (o.cond e
 (o.add a (.int .i64 1) fun f =>
 o.quo b (.int .u32 2) fun g =>
 d f g c)
 (o.rest a fun h =>
 some (h, c)))
def f44 (o : Ops) (K : Nat) (C : CallC) (a : SV) (H : Heap) : Rs :=
 o.len a fun b =>
 o.eql b (.int .i64 0) fun c =>
 (o.cond c
 (some ((.int .i64 0), H))
 (o.len a fun d =>
 o.sub d (.int .i64 1) fun e =>
 o.mul (.int .i64 16) e fun f =>
 o.len a fun g =>
 o.sub g (.int .i64 1) fun h =>
 o.idx 1 a h fun i =>
 o.load 1 false i H fun j =>
 (o.loop2 (f44_l2 o K C) K f j H)))
def f45_l1 (o : Ops) (K : Nat) (C : CallC) : SV -> SV -> Heap -> (SV -> SV -> Heap -> Rs) -> Rs := fun a b c d =>
 o.gtr a (.int .u64 0) fun e =>
 (o.cond e
 (o.rem a (.int .u64 65536) fun f =>
 o.conv .u32 f fun g =>
 o.hbuild 1 [.int .u32 0] [(0, 1)] [g] c fun h i =>
 o.append 1 4 b h i fun j k =>
 o.quo a (.int .u64 65536) fun l =>
 d l j k)
 (o.rest b fun m =>
 some (m, c)))
def f45 (o : Ops) (K : Nat) (C : CallC) (a : SV) (H : Heap) : Rs :=
 (o.loop2 (f45_l1 o K C) K a (.slice nilSl) H)
def f46_j13 (o : Ops) (K : Nat) (C : CallC) (a : SV -> SV -> SV -> SV -> SV -> SV -> SV -> Heap -> Rs) (b c d e f g h : SV) (i : Heap) : Rs :=
 o.add h (.int .i64 1) fun j =>
 a b c d e f g j i
def f46_l18 (o : Ops) (K : Nat) (C : CallC) (r : SV -> SV -> SV -> SV -> SV -> SV -> SV -> SV -> Heap -> Rs) : SV -> SV -> SV -> SV -> SV -> SV -> SV -> SV -> SV -> Heap -> (SV -> SV -> SV -> SV -> SV -> SV -> SV -> SV -> SV -> Heap -> Rs) -> Rs := fun m n a i p g d c e b s =>
 o.idx 1 a c fun t =>
 o.load 1 false t b fun u =>
 o.len u fun v =>
 o.lss e v fun w =>
 (o.cond w
 (o.idx 1 a g fun x =>
 o.load 1 false x b fun y =>
 o.idx 2 y d fun z =>
 o.load 2 true z b fun A =>
 o.idx 1 a c fun B =>
 o.load 1 false B b fun D =>
 o.idx 2 D e fun E =>
 o.load 2 true E b fun F =>
 o.call (C 52 [A, F] b) fun G f =>
 o.bstore 0 2 (.box [.bool false, .slice nilSl]) G fun I =>
 o.idx 1 a c fun J =>
 o.load 1 false J f fun L =>
 o.idx 2 L d fun M =>
 o.load 2 true M f fun N =>
 o.idx 1 a g fun P =>
 o.load 1 false P f fun Q =>
 o.idx 2 Q e fun S =>
 o.load 2 true S f fun T =>
 o.call (C 52 [N, T] f) fun U j =>
 o.bstore 0 2 (.box [.bool false, .slice nilSl]) U fun V =>
 o.idx 1 a c fun h =>
 o.load 1 false h j fun W =>
 o.lload 0 2 true (.box I) fun X =>
 o.lload 0 2 true (.box V) fun Y =>
 o.call (C 51 [Y] j) fun Z k =>
 o.call (C 75 [X, Z] k) fun aa l =>
 o.lload 0 2 true i fun ab =>
 o.call (C 74 [aa, ab] l) fun ac q =>
 o.idx 2 W e fun ad =>
 o.store 2 ad ac q fun ae =>
 (o.same h j k ((o.same h k l ((o.same h l q (o.add e (.int .i64 1) fun af =>
 s m n a i p g d c af ae)))))))
 (o.idx 1 a c fun ag =>
 o.load 1 false ag b fun ah =>
 o.build [.bool false, .slice nilSl] [] [] fun ai =>
 o.idx 2 ah d fun aj =>
 o.store 2 aj ai b fun ak =>
 o.add c (.int .i64 1) fun al =>
 r m n a i p g d al ak))
def f46_l16 (o : Ops) (K : Nat) (C : CallC) (j : SV -> SV -> SV -> SV -> SV -> SV -> SV -> Heap -> Rs) : SV -> SV -> SV -> SV -> SV -> SV -> SV -> SV -> Heap -> (SV -> SV -> SV -> SV -> SV -> SV -> SV -> SV -> Heap -> Rs) -> Rs := fun e f a g h d b i c k =>
 o.len a fun l =>
 o.lss i l fun m =>
 (o.cond m
 (o.add b (.int .i64 1) fun n =>
 (o.loop9 (f46_l18 o K C k) K e f a g h d b i n c))
 (o.idx 1 a d fun p =>
 o.load 1 false p c fun q =>
 o.idx 2 q b fun r =>
 o.load 2 true r c fun s =>
 o.bstore 0 2 g s fun t =>
 o.add d (.int .i64 1) fun u =>
 (f46_j13 o K C j e f a (.box t) h u b c)))
def f46_j15 (o : Ops) (K : Nat) (C : CallC) (b : SV -> SV -> SV -> SV -> SV -> SV -> SV -> Heap -> Rs) (c d e f g a h : SV) (i : Heap) : Rs :=
 o.add a (.int .i64 1) fun j =>
 (o.loop8 (f46_l16 o K C b) K c d e f g a h j i)
def f46_j9 (o : Ops) (K : Nat) (C : CallC) (j : SV -> SV -> SV -> SV -> SV -> SV -> SV -> Heap -> Rs) (k : SV -> SV -> SV -> SV -> SV -> SV -> SV -> SV -> Heap -> Rs) (e f a g h b i d l : SV) (c : Heap) : Rs :=
 (o.cond l
 (o.add d (.int .i64 1) fun m =>
 k e f a g h b i m c)
 (o.len a fun n =>
 o.eql d n fun p =>
 (o.cond p
 ((f46_j13 o K C j e f a g h b i c))
 (o.neq d b fun q =>
 (o.cond q
 (o.idx 1 a b fun r =>
 o.load 1 false r c fun s =>
 o.idx 1 a d fun t =>
 o.load 1 false t c fun u =>
 o.idx 1 a d fun v =>
 o.store 1 v s c fun w =>
 o.idx 1 a b fun x =>
 o.store 1 x u w fun y =>
 o.u_not h fun z =>
 (f46_j15 o K C j e f a g z b i y))
 ((f46_j15 o K C j e f a g h b i c)))))))
def f46_l8 (o : Ops) (K : Nat) (C : CallC) (e : SV -> SV -> SV -> SV -> SV -> SV -> SV -> Heap -> Rs) : SV -> SV -> SV -> SV -> SV -> SV -> SV -> SV -> Heap -> (SV -> SV -> SV -> SV -> SV -> SV -> SV -> SV -> Heap -> Rs) -> Rs := fun f g a h i j d b c k =>
 o.len a fun l =>
 o.lss b l fun m =>
 (o.guard m
 (o.idx 1 a b fun n =>
 o.load 1 false n c fun p =>
 o.idx 2 p d fun q =>
 o.fld 1 q fun r =>
 o.load 1 false r c fun s =>
 o.len s fun t =>
 o.eql t (.int .i64 0) fun u =>
 (f46_j9 o K C e k f g a h i j d b u c))
 ((f46_j9 o K C e k f g a h i j d b (.bool false) c))
 (none))
def f46_j6 (o : Ops) (K : Nat) (C : CallC) (g : SV -> SV -> SV -> SV -> SV -> SV -> SV -> Heap -> Rs) (h b e d f a i j : SV) (c : Heap) : Rs :=
 (o.cond j
 ((o.loop8 (f46_l8 o K C g) K h b e d f a i a c))
 (o.len e fun k =>
 o.lss a k fun l =>
 (o.cond l
 (o.build [.bool false, .slice nilSl] [] [] fun m =>
 o.bstore 0 2 b m fun n =>
 o.rest a fun p =>
 o.resc 2 true (.box n) fun q =>
 some (.tuple [p, q], c))
 ((o.cond f
 (o.lload 0 2 true d fun r =>
 o.call (C 51 [r] c) fun s t =>
 o.bstore 0 2 b s fun u =>
 o.rest a fun v =>
 o.resc 2 true (.box u) fun w =>
 some (.tuple [v, w], t))
 (o.lload 0 2 true d fun x =>
 o.bstore 0 2 b x fun y =>
 o.rest a fun z =>
 o.resc 2 true (.box y) fun A =>
 some (.tuple [z, A], c)))))))
def f46_l5 (o : Ops) (K : Nat) (C : CallC) : SV -> SV -> SV -> SV -> SV -> SV -> SV -> Heap -> (SV -> SV -> SV -> SV -> SV -> SV -> SV -> Heap -> Rs) -> Rs := fun a e b f g c d j h =>
 o.call (C 13 [a] j) fun k i =>
 o.lss d k fun l =>
 (o.guard l
 (o.len b fun m =>
 o.lss c m fun n =>
 (f46_j6 o K C h a e b f g c d n i))
 ((f46_j6 o K C h a e b f g c d (.bool false) i))
 (none))
def f46_l1 (o : Ops) (K : Nat) (C : CallC) : SV -> SV -> SV -> SV -> Heap -> (SV -> SV -> SV -> SV -> Heap -> Rs) -> Rs := fun a c d b e g =>
 o.len a fun h =>
 o.lss b h fun i =>
 (o.cond i
 (o.hbuild 2 [] [] [] e fun j f =>
 o.idx 1 a b fun k =>
 o.load 1 false k f fun l =>
 o.append 2 32 j l f fun m n =>
 o.hbuild 1 [.slice nilSl] [(0, 1)] [m] n fun p q =>
 o.append 1 24 d p q fun r s =>
 o.add b (.int .i64 1) fun t =>
 g a c r t s)
 (o.call (C 73 [(.int .i64 1)] e) fun u v =>
 o.bstore 0 2 (.box [.bool false, .slice nilSl]) u fun w =>
 (o.loop7 (f46_l5 o K C) K a c d (.box w) (.bool false) (.int .i64 0) (.int .i64 0) v)))
def f46 (o : Ops) (K : Nat) (C : CallC) (a : SV) (H : Heap) : Rs :=
 (o.loop4 (f46_l1 o K C) K a (.box [.bool false, .slice nilSl]) (.slice nilSl) (.int .i64 0) H)
def f47_j5 (o : Ops) (K : Nat) (C : CallC) (e : SV -> SV -> Heap -> Rs) (f : SV -> SV -> SV -> SV -> Heap -> Rs) (a b c g h : SV) (d : Heap) : Rs :=
 (o.cond h
 (o.rem c (.int .u32 10) fun i =>
 o.add (.int .u32 48) i fun j =>
 o.conv .u8 j fun k =>
 o.hbuild 1 [.int .u8 0] [(0, 1)] [k] d fun l m =>
 o.append 1 1 b l m fun n p =>
 o.quo c (.int .u32 10) fun q =>
 o.add g (.int .i64 1) fun r =>
 f a n q r p)
 (e a b d))
def f47_l4 (o : Ops) (K : Nat) (C : CallC) (d : SV -> SV -> Heap -> Rs) : SV -> SV -> SV -> SV -> Heap -> (SV -> SV -> SV -> SV -> Heap -> Rs) -> Rs := fun a e b c f g =>
 o.lss c (.int .i64 9) fun h =>
 (o.guard h
 (o.len a fun i =>
 o.gtr i (.int .i64 0) fun j =>
 (o.guard j
 ((f47_j5 o K C d g a e b c (.bool true) f))
 (o.gtr b (.int .u32 0) fun k =>
 (f47_j5 o K C d g a e b c k f))
 (none)))
 ((f47_j5 o K C d g a e b c (.bool false) f))
 (none))
def f47_l11 (o : Ops) (K : Nat) (C : CallC) : SV -> SV -> SV -> Heap -> (SV -> SV -> SV -> Heap -> Rs) -> Rs := fun a c d b e =>
 o.lss c d fun f =>
 (o.cond f
 (o.idx 1 a d fun g =>
 o.load 1 false g b fun h =>
 o.idx 1 a c fun i =>
 o.load 1 false i b fun j =>
 o.idx 1 a c fun k =>
 o.store 1 k h b fun l =>
 o.idx 1 a d fun m =>
 o.store 1 m j l fun n =>
 o.add c (.int .i64 1) fun p =>
 o.sub d (.int .i64 1) fun q =>
 e a p q n)
 (o.str a b fun r =>
 o.rest r fun s =>
 some (s, b)))
def f47_l2 (o : Ops) (K : Nat) (C : CallC) : SV -> SV -> Heap -> (SV -> SV -> Heap -> Rs) -> Rs := fun a b c d =>
 o.len a fun e =>
 o.gtr e (.int .i64 0) fun f =>
 (o.cond f
 (o.call (C 76 [a, (.int .u32 1000000000)] c) fun g h =>
 o.call (C 77 [a] h) fun i j =>
 o.fieldv 0 1 false i fun k =>
 (o.loop4 (f47_l4 o K C d) K k b g (.int .i64 0) j))
 (o.len b fun l =>
 o.sub l (.int .i64 1) fun m =>
 (o.loop3 (f47_l11 o K C) K b (.int .i64 0) m c)))
def f47 (o : Ops) (K : Nat) (C : CallC) (b : SV) (H : Heap) : Rs :=
 o.bbox b fun a =>
 o.lfld 0 (.box a) fun c =>
 o.lloadp 1 false (.box a) c fun d =>
 o.len d fun e =>
 o.eql e (.int .i64 0) fun f =>
 (o.cond f
 (some ((.str [48]), H))
 (o.lfld 0 (.box a) fun g =>
 o.lloadp 1 false (.box a) g fun h =>
 o.append 1 4 (.slice nilSl) h H fun i j =>
 (o.loop2 (f47_l2 o K C) K i (.slice nilSl) j)))
def f48_j5 (o : Ops) (K : Nat) (C : CallC) (f : SV -> SV -> Heap -> Rs) (g : SV -> SV -> SV -> SV -> Heap -> Rs) (a b c h i : SV) (d : Heap) : Rs :=
 (o.cond i
 (o.rem c (.int .u64 10) fun j =>
 o.add (.int .u64 48) j fun k =>
 o.conv .u8 k fun l =>
 o.hbuild 1 [.int .u8 0] [(0, 1)] [l] d fun m e =>
 o.str m e fun n =>
 o.add n a fun p =>
 o.quo c (.int .u64 10) fun q =>
 o.add h (.int .i64 1) fun r =>
 g p b q r e)
 (f b a d))
def f48_l4 (o : Ops) (K : Nat) (C : CallC) (d : SV -> SV -> Heap -> Rs) : SV -> SV -> SV -> SV -> Heap -> (SV -> SV -> SV -> SV -> Heap -> Rs) -> Rs := fun e a b c f g =>
 o.lss c (.int .i64 4) fun h =>
 (o.guard h
 (o.len a fun i =>
 o.gtr i (.int .i64 0) fun j =>
 (o.guard j
 ((f48_j5 o K C d g e a b c (.bool true) f))
 (o.gtr b (.int .u64 0) fun k =>
 (f48_j5 o K C d g e a b c k f))
 (none)))
 ((f48_j5 o K C d g e a b c (.bool false) f))
 (none))
def f48_l2 (o : Ops) (K : Nat) (C : CallC) : SV -> SV -> Heap -> (SV -> SV -> Heap -> Rs) -> Rs := fun a b c f =>
 o.len a fun g =>
 o.gtr g (.int .i64 0) fun h =>
 (o.cond h
 (o.call (C 45 [(.int .u64 10000)] c) fun i j =>
 o.call (C 78 [a, i] j) fun d k =>
 o.ext 0 d fun l =>
 o.ext 1 d fun m =>
 o.call (C 79 [m] k) fun e n =>
 o.ext 0 e fun p =>
 o.ext 1 e fun r =>
 (o.loop4 (f48_l4 o K C f) K b l p (.int .i64 0) n))
 (o.rest b fun q =>
 some (q, c)))
def f48 (o : Ops) (K : Nat) (C : CallC) (a : SV) (H : Heap) : Rs :=
 o.len a fun b =>
 o.eql b (.int .i64 0) fun c =>
 (o.cond c
 (some ((.str [48]), H))
 ((o.loop2 (f48_l2 o K C) K a (.str []) H)))
def f49_l3 (o : Ops) (K : Nat) (C : CallC) (g : SV -> SV -> SV -> Heap -> Rs) : SV -> SV -> SV -> SV -> SV -> Heap -> (SV -> SV -> SV -> SV -> SV -> Heap -> Rs) -> Rs := fun b e c f d a h =>
 o.idx 1 b c fun i =>
 o.load 1 false i a fun j =>
 o.len j fun k =>
 o.lss d k fun l =>
 (o.cond l
 (o.idx 1 b c fun m =>
 o.load 1 false m a fun n =>
 o.idx 2 n d fun p =>
 o.load 2 true p a fun q =>
 o.call (C 18 [q] a) fun r s =>
 o.hbuild 1 [.str []] [(0, 1)] [r] s fun t u =>
 o.append 1 16 f t u fun v w =>
 o.add d (.int .i64 1) fun x =>
 h b e c v x w)
 (o.hbuild 1 [.slice nilSl] [(0, 1)] [f] a fun y z =>
 o.append 1 24 e y z fun A B =>
 o.add c (.int .i64 1) fun D =>
 g b A D B))
def f49_l1 (o : Ops) (K : Nat) (C : CallC) : SV -> SV -> SV -> Heap -> (SV -> SV -> SV -> Heap -> Rs) -> Rs := fun a b c d e =>
 o.len a fun f =>
 o.lss c f fun g =>
 (o.cond g
 ((o.loop5 (f49_l3 o K C e) K a b c (.slice nilSl) (.int .i64 0) d))
 (o.rest b fun h =>
 some (h, d)))
def f49 (o : Ops) (K : Nat) (C : CallC) (a : SV) (H : Heap) : Rs :=
 (o.loop3 (f49_l1 o K C) K a (.slice nilSl) (.int .i64 0) H)
def f50_j3 (o : Ops) (K : Nat) (C : CallC) (a : SV -> SV -> SV -> SV -> SV -> Heap -> Rs) (b c d e f : SV) (g : Heap) : Rs :=
 o.add f (.int .i64 1) fun h =>
 a b c d e h g
def f50_l1 (o : Ops) (K : Nat) (C : CallC) : SV -> SV -> SV -> SV -> SV -> Heap -> (SV -> SV -> SV -> SV -> SV -> Heap -> Rs) -> Rs := fun b e d f a c h =>
 o.len b fun i =>
 o.lss a i fun j =>
 (o.cond j
 (o.eql a e fun k =>
 (o.cond k
 ((f50_j3 o K C h b e d f a c))
 (o.idx 1 b a fun l =>
 o.load 1 false l c fun m =>
 o.slice010 2 m d c fun n =>
 o.append 2 32 (.slice nilSl) n c fun p g =>
 o.idx 1 b a fun q =>
 o.load 1 false q g fun r =>
 o.add d (.int .i64 1) fun s =>
 o.slice100 2 r s g fun t =>
 o.append 2 32 p t g fun u v =>
 o.hbuild 1 [.slice nilSl] [(0, 1)] [u] v fun w x =>
 o.append 1 24 f w x fun y z =>
 (f50_j3 o K C h b e d y a z))))
 (o.rest f fun A =>
 some (A, c)))
def f50 (o : Ops) (K : Nat) (C : CallC) (a b c : SV) (H : Heap) : Rs :=
 (o.loop5 (f50_l1 o K C) K a b c (.slice nilSl) (.int .i64 0) H)
def f51_j1 (o : Ops) (K : Nat) (C : CallC) (a : SV) (b : Heap) : Rs :=
 o.resc 2 true a fun c =>
 some (c, b)
def f51 (o : Ops) (K : Nat) (C : CallC) (b : SV) (H : Heap) : Rs :=
 o.bbox b fun a =>
 o.lfld 0 (.box a) fun c =>
 o.lloadp 1 false (.box a) c fun d =>
 o.u_not d fun e =>
 (o.guard e
 (o.lfld 1 (.box a) fun f =>
 o.lloadp 1 false (.box a) f fun g =>
 o.len g fun h =>
 o.gtr h (.int .i64 0) fun i =>
 o.lfld 1 (.box a) fun j =>
 o.lloadp 1 false (.box a) j fun k =>
 o.build [.bool false, .slice nilSl] [(0, 1), (1, 1)] [i, k] fun l =>
 o.bstore 0 2 (.box [.bool false, .slice nilSl]) l fun m =>
 (f51_j1 o K C (.box m) H))
 (o.lfld 1 (.box a) fun n =>
 o.lloadp 1 false (.box a) n fun p =>
 o.build [.bool false, .slice nilSl] [(0, 1), (1, 1)] [(.bool false), p] fun q =>
 o.bstore 0 2 (.box [.bool false, .slice nilSl]) q fun r =>
 (f51_j1 o K C (.box r) H))
 (none))
def f52_j1 (o : Ops) (K : Nat) (C : CallC) (a : SV) (b : Heap) : Rs :=
 o.resc 2 true a fun c =>
 some (c, b)
def f52 (o : Ops) (K : Nat) (C : CallC) (e f : SV) (H : Heap) : Rs :=
 o.bbox e fun a =>
 o.bbox f fun b =>
 o.lfld 1 (.box a) fun g =>
 o.lloadp 1 false (.box a) g fun h =>
 o.lfld 1 (.box b) fun i =>
 o.lloadp 1 false (.box b) i fun j =>
 o.call (C 80 [h, j] H) fun c d =>
 o.lfld 0 (.box a) fun k =>
 o.lloadp 1 false (.box a) k fun l =>
 o.lfld 0 (.box b) fun m =>
 o.lloadp 1 false (.box b) m fun n =>
 o.b_neq l n fun p =>
 (o.guard p
 (o.len c fun q =>
 o.gtr q (.int .i64 0) fun r =>
 o.build [.bool false, .slice nilSl] [(0, 1), (1, 1)] [r, c] fun s =>
 o.bstore 0 2 (.box [.bool false, .slice nilSl]) s fun t =>
 (f52_j1 o K C (.box t) d))
 (o.build [.bool false, .slice nilSl] [(0, 1), (1, 1)] [(.bool false), c] fun u =>
 o.bstore 0 2 (.box [.bool false, .slice nilSl]) u fun v =>
 (f52_j1 o K C (.box v) d))
 (none))
def f53_j3 (o : Ops) (K : Nat) (C : CallC) (b : SV -> SV -> SV -> SV -> Heap -> Rs) (c d e f g : SV) (a : Heap) : Rs :=
 (o.cond g
 (some ((.bool false), a))
 (o.add f (.int .i64 1) fun h =>
 b c d e h a))
def f53_l1 (o : Ops) (K : Nat) (C : CallC) : SV -> SV -> SV -> SV -> Heap -> (SV -> SV -> SV -> SV -> Heap -> Rs) -> Rs := fun b d e c a f =>
 o.lss c e fun h =>
 (o.cond h
 (o.idx 1 d c fun i =>
 o.load 1 false i a fun g =>
 o.len b fun j =>
 o.gtr j (.int .i64 16) fun k =>
 (o.guard k
 ((f53_j3 o K C f b d e c (.bool true) a))
 (o.lss g (.int .i64 1) fun l =>
 (o.guard l
 ((f53_j3 o K C f b d e c (.bool true) a))
 (o.gtr g (.int .i64 16) fun m =>
 (o.guard m
 ((f53_j3 o K C f b d e c (.bool true) a))
 (o.idx 1 b (.int .i64 0) fun n =>
 o.load 1 false n a fun p =>
 o.neq g p fun q =>
 (f53_j3 o K C f b d e c q a))
 (none)))
 (none)))
 (none)))
 (some ((.bool true), a)))
def f53 (o : Ops) (K : Nat) (C : CallC) (a : SV) (H : Heap) : Rs :=
 o.len a fun b =>
 (o.loop4 (f53_l1 o K C) K a a b (.int .i64 0) H)
def f54_l1 (o : Ops) (K : Nat) (C : CallC) : SV -> SV -> SV -> SV -> Heap -> (SV -> SV -> SV -> SV -> Heap -> Rs) -> Rs := fun c d e a b f =>
 o.lss a e fun g =>
 (o.cond g
 (o.idx 1 c a fun h =>
 o.load 1 false h b fun i =>
 o.len i fun j =>
 o.hbuild 1 [.int .i64 0] [(0, 1)] [j] b fun k l =>
 o.append 1 8 d k l fun m n =>
 o.add a (.int .i64 1) fun p =>
 f c m e p n)
 (o.rest d fun q =>
 some (q, b)))
def f54 (o : Ops) (K : Nat) (C : CallC) (a : SV) (H : Heap) : Rs :=
 o.len a fun b =>
 (o.loop4 (f54_l1 o K C) K a (.slice nilSl) b (.int .i64 0) H)
def f55 (o : Ops) (K : Nat) (C : CallC) (a b c : SV) (H : Heap) : Rs :=
 o.load 1 false c H fun d =>
 o.idx 1 d a fun e =>
 o.load 1 false e H fun f =>
 o.idx 1 f b fun g =>
 o.load 1 false g H fun h =>
 o.call (C 42 [h] H) fun i j =>
 o.bstore 0 2 (.box [.bool false, .slice nilSl]) i fun k =>
 o.resc 2 true (.box k) fun l =>
 some (l, j)
def f56 (o : Ops) (K : Nat) (C : CallC) (c d e : SV) (H : Heap) : Rs :=
 o.box e H fun f g =>
 o.alloc [.int .i64 0] g fun a h =>
 o.store 1 a (.int .i64 0) h fun i =>
 o.mkfn 81 0 [a, f] fun j =>
 o.call (C 36 [c, d, j] i) fun k b =>
 o.bstore 0 1 (.box [.slice nilSl]) k fun l =>
 o.load 1 false a b fun m =>
 o.neq m (.int .i64 0) fun n =>
 (o.cond n
 (o.build [.slice nilSl] [] [] fun p =>
 o.load 1 false a b fun q =>
 o.bstore 0 1 (.box [.slice nilSl]) p fun r =>
 o.resc 1 true (.box r) fun s =>
 o.rest q fun t =>
 some (.tuple [s, t], b))
 (o.lload 0 1 true (.box l) fun u =>
 o.bstore 0 1 (.box [.slice nilSl]) u fun v =>
 o.resc 1 true (.box v) fun w =>
 some (.tuple [w, (.int .i64 0)], b)))
def f57_l1 (o : Ops) (K : Nat) (C : CallC) : SV -> SV -> SV -> SV -> SV -> SV -> SV -> SV -> Heap -> (SV -> SV -> SV -> SV -> SV -> SV -> SV -> SV -> Heap -> Rs) -> Rs := fun e f g h b c i d a r =>
 o.lss d i fun s =>
 (o.cond s
 (o.fld 0 g fun t =>
 o.load 1 false t a fun u =>
 o.idx 1 u e fun v =>
 o.load 1 false v a fun w =>
 o.idx 2 w d fun x =>
 o.load 2 true x a fun y =>
 o.fld 0 h fun z =>
 o.load 1 false z a fun A =>
 o.idx 1 A d fun B =>
 o.load 1 false B a fun D =>
 o.idx 2 D f fun E =>
 o.load 2 true E a fun F =>
 o.call (C 58 [y, F] a) fun j k =>
 o.ext 0 j fun G =>
 o.ext 1 j fun l =>
 o.bstore 0 2 (.box [.bool false, .slice nilSl]) G fun I =>
 o.neq l (.int .i64 0) fun J =>
 (o.cond J
 (o.lload 0 2 true c fun L =>
 o.bstore 0 2 b L fun M =>
 o.resc 2 true (.box M) fun N =>
 o.rest l fun P =>
 some (.tuple [N, P], k))
 (o.lload 0 2 true c fun Q =>
 o.lload 0 2 true (.box I) fun S =>
 o.call (C 59 [Q, S] k) fun m n =>
 o.ext 0 m fun T =>
 o.ext 1 m fun p =>
 o.bstore 0 2 c T fun q =>
 o.neq p (.int .i64 0) fun U =>
 (o.cond U
 (o.lload 0 2 true (.box q) fun V =>
 o.bstore 0 2 b V fun W =>
 o.resc 2 true (.box W) fun X =>
 o.rest p fun Y =>
 some (.tuple [X, Y], n))
 (o.add d (.int .i64 1) fun Z =>
 r e f g h b (.box q) i Z n)))))
 (o.lload 0 2 true c fun aa =>
 o.bstore 0 2 b aa fun ab =>
 o.resc 2 true (.box ab) fun ac =>
 some (.tuple [ac, (.int .i64 0)], a)))
def f57 (o : Ops) (K : Nat) (C : CallC) (a b c d e : SV) (H : Heap) : Rs :=
 o.build [.bool false, .slice nilSl] [] [] fun f =>
 o.bstore 0 2 (.box [.bool false, .slice nilSl]) f fun g =>
 o.load 1 false c H fun h =>
 (o.loop8 (f57_l1 o K C) K a b d e (.box [.bool false, .slice nilSl]) (.box g) h (.int .i64 0) H)
def f58 (o : Ops) (K : Nat) (C : CallC) (d e : SV) (H : Heap) : Rs :=
 o.bbox d fun a =>
 o.bbox e fun b =>
 o.lfld 1 (.box a) fun f =>
 o.lloadp 1 true (.box a) f fun g =>
 o.lfld 1 (.box b) fun h =>
 o.lloadp 1 true (.box b) h fun i =>
 o.call (C 82 [g, i] H) fun c j =>
 o.ext 0 c fun k =>
 o.ext 1 c fun l =>
 o.bstore 0 1 (.box [.slice nilSl]) k fun m =>
 o.lfld 0 (.box a) fun n =>
 o.lloadp 1 false (.box a) n fun p =>
 o.lfld 0 (.box b) fun q =>
 o.lloadp 1 false (.box b) q fun r =>
 o.b_neq p r fun s =>
 o.lload 0 1 true (.box m) fun t =>
 o.call (C 70 [s, t] j) fun u v =>
 o.bstore 0 2 (.box [.bool false, .slice nilSl]) u fun w =>
 o.resc 2 true (.box w) fun x =>
 o.rest l fun y =>
 some (.tuple [x, y], v)
def f59_j2 (o : Ops) (K : Nat) (C : CallC) (a b d : SV) (e : Heap) : Rs :=
 o.lfld 1 a fun f =>
 o.lloadp 1 true a f fun g =>
 o.lfld 1 b fun h =>
 o.lloadp 1 true b h fun i =>
 o.call (C 85 [g, i] e) fun c j =>
 o.ext 0 c fun k =>
 o.ext 1 c fun l =>
 o.bstore 0 1 (.box [.slice nilSl]) k fun m =>
 o.lfld 0 a fun n =>
 o.lloadp 1 false a n fun p =>
 o.lload 0 1 true (.box m) fun q =>
 o.call (C 70 [p, q] j) fun r s =>
 o.bstore 0 2 d r fun t =>
 o.resc 2 true (.box t) fun u =>
 o.rest l fun v =>
 some (.tuple [u, v], s)
def f59 (o : Ops) (K : Nat) (C : CallC) (e f : SV) (H : Heap) : Rs :=
 o.bbox e fun a =>
 o.bbox f fun b =>
 o.lfld 0 (.box a) fun g =>
 o.lloadp 1 false (.box a) g fun h =>
 o.lfld 0 (.box b) fun i =>
 o.lloadp 1 false (.box b) i fun j =>
 o.b_eql h j fun k =>
 (o.cond k
 (o.lfld 1 (.box a) fun l =>
 o.lloadp 1 true (.box a) l fun m =>
 o.lfld 1 (.box b) fun n =>
 o.lloadp 1 true (.box b) n fun p =>
 o.call (C 83 [m, p] H) fun c q =>
 o.ext 0 c fun r =>
 o.ext 1 c fun s =>
 o.bstore 0 1 (.box [.slice nilSl]) r fun t =>
 o.lfld 0 (.box a) fun u =>
 o.lloadp 1 false (.box a) u fun v =>
 o.lload 0 1 true (.box t) fun w =>
 o.call (C 70 [v, w] q) fun x y =>
 o.bstore 0 2 (.box [.bool false, .slice nilSl]) x fun z =>
 o.resc 2 true (.box z) fun A =>
 o.rest s fun B =>
 some (.tuple [A, B], y))
 (o.lfld 1 (.box a) fun D =>
 o.lloadp 1 true (.box a) D fun E =>
 o.lfld 1 (.box b) fun F =>
 o.lloadp 1 true (.box b) F fun G =>
 o.call (C 84 [E, G] H) fun I d =>
 o.lss I (.int .i64 0) fun J =>
 (o.cond J
 (o.lload 0 2 true (.box b) fun L =>
 o.lload 0 2 true (.box a) fun M =>
 o.bstore 0 2 (.box a) L fun N =>
 o.bstore 0 2 (.box b) M fun P =>
 (f59_j2 o K C (.box N) (.box P) (.box [.bool false, .slice nilSl]) d))
 ((f59_j2 o K C (.box a) (.box b) (.box [.bool false, .slice nilSl]) d)))))
def f60 (o : Ops) (K : Nat) (C : CallC) (a b : SV) (H : Heap) : Rs :=
 o.eql a b fun c =>
 (o.cond c
 (o.call (C 42 [(.int .i64 1)] H) fun d e =>
 o.bstore 0 2 (.box [.bool false, .slice nilSl]) d fun f =>
 o.resc 2 true (.box f) fun g =>
 some (g, e))
 (o.build [.bool false, .slice nilSl] [] [] fun h =>
 o.bstore 0 2 (.box [.bool false, .slice nilSl]) h fun i =>
 o.resc 2 true (.box i) fun j =>
 some (j, H)))
def f61_j1 (o : Ops) (K : Nat) (C : CallC) (a b d : SV) (c : Heap) : Rs :=
 (o.cond d
 (o.lfld 1 b fun e =>
 o.lloadp 1 true b e fun f =>
 o.lfld 1 a fun g =>
 o.lloadp 1 true a g fun h =>
 o.call (C 84 [f, h] c) fun i j =>
 o.rest i fun k =>
 some (k, j))
 (o.lfld 0 a fun l =>
 o.lloadp 1 false a l fun m =>
 (o.cond m
 (some ((.int .i64 (-1)), c))
 (o.lfld 0 b fun n =>
 o.lloadp 1 false b n fun p =>
 (o.cond p
 (some ((.int .i64 1), c))
 (o.lfld 1 a fun q =>
 o.lloadp 1 true a q fun r =>
 o.lfld 1 b fun s =>
 o.lloadp 1 true b s fun t =>
 o.call (C 84 [r, t] c) fun u v =>
 o.rest u fun w =>
 some (w, v)))))))
def f61 (o : Ops) (K : Nat) (C : CallC) (c d : SV) (H : Heap) : Rs :=
 o.bbox c fun a =>
 o.bbox d fun b =>
 o.lfld 0 (.box a) fun e =>
 o.lloadp 1 false (.box a) e fun f =>
 (o.guard f
 (o.lfld 0 (.box b) fun g =>
 o.lloadp 1 false (.box b) g fun h =>
 (f61_j1 o K C (.box a) (.box b) h H))
 ((f61_j1 o K C (.box a) (.box b) (.bool false) H))
 (none))
def f62_l1 (o : Ops) (K : Nat) (C : CallC) : SV -> SV -> SV -> SV -> Heap -> (SV -> SV -> SV -> SV -> Heap -> Rs) -> Rs := fun c d e a b f =>
 o.lss a e fun g =>
 (o.cond g
 (o.idx 1 c a fun h =>
 o.load 1 false h b fun i =>
 o.len i fun j =>
 o.hbuild 1 [.int .i64 0] [(0, 1)] [j] b fun k l =>
 o.append 1 8 d k l fun m n =>
 o.add a (.int .i64 1) fun p =>
 f c m e p n)
 (o.rest d fun q =>
 some (q, b)))
def f62 (o : Ops) (K : Nat) (C : CallC) (a : SV) (H : Heap) : Rs :=
 o.len a fun b =>
 (o.loop4 (f62_l1 o K C) K a (.slice nilSl) b (.int .i64 0) H)
def f63_j1 (o : Ops) (K : Nat) (C : CallC) (a b : SV) (c : Heap) : Rs :=
 o.lload 0 2 true b fun d =>
 o.bstore 0 2 a d fun e =>
 o.resc 2 true (.box e) fun f =>
 some (f, c)
def f63 (o : Ops) (K : Nat) (C : CallC) (e f g b : SV) (H : Heap) : Rs :=
 o.load 1 false g H fun h =>
 o.idx 1 h e fun i =>
 o.load 1 false i H fun j =>
 o.idx 1 j f fun k =>
 o.load 1 false k H fun l =>
 o.call (C 64 [l] H) fun c a =>
 o.ext 0 c fun m =>
 o.ext 1 c fun n =>
 o.bstore 0 2 (.box [.bool false, .slice nilSl]) m fun d =>
 o.load 1 false b a fun p =>
 o.eql p (.int .i64 0) fun q =>
 (o.cond q
 (o.store 1 b n a fun r =>
 (f63_j1 o K C (.box [.bool false, .slice nilSl]) (.box d) r))
 ((f63_j1 o K C (.box [.bool false, .slice nilSl]) (.box d) a)))
def f64_j2 (o : Ops) (K : Nat) (C : CallC) (f a g h : SV) (b : Heap) : Rs :=
 o.eql f (.str [45, 48]) fun i =>
 (o.cond i
 (o.build [.bool false, .slice nilSl] [] [] fun j =>
 o.bstore 0 2 a j fun k =>
 o.resc 2 true (.box k) fun l =>
 some (.tuple [l, (.int .i64 12)], b))
 (o.call (C 86 [g] b) fun c d =>
 o.ext 0 c fun m =>
 o.ext 1 c fun e =>
 o.bstore 0 1 (.box [.slice nilSl]) m fun n =>
 o.neq e (.int .i64 0) fun p =>
 (o.cond p
 (o.build [.bool false, .slice nilSl] [] [] fun q =>
 o.bstore 0 2 a q fun r =>
 o.resc 2 true (.box r) fun s =>
 o.rest e fun t =>
 some (.tuple [s, t], d))
 (o.lload 0 1 true (.box n) fun u =>
 o.call (C 70 [h, u] d) fun v w =>
 o.bstore 0 2 a v fun x =>
 o.resc 2 true (.box x) fun y =>
 some (.tuple [y, (.int .i64 0)], w)))))
def f64_j1 (o : Ops) (K : Nat) (C : CallC) (a c e b : SV) (d : Heap) : Rs :=
 (o.cond b
 (o.strcut10 a (.int .i64 1) fun f =>
 (f64_j2 o K C a c f b d))
 ((f64_j2 o K C a c e b d)))
def f64 (o : Ops) (K : Nat) (C : CallC) (a : SV) (H : Heap) : Rs :=
 o.slen a fun b =>
 o.gtr b (.int .i64 0) fun c =>
 (o.guard c
 (o.stridx a (.int .i64 0) fun d =>
 o.eql d (.int .u8 45) fun e =>
 (f64_j1 o K C a (.box [.bool false, .slice nilSl]) a e H))
 ((f64_j1 o K C a (.box [.bool false, .slice nilSl]) a (.bool false) H))
 (none))
def f65_j1 (o : Ops) (K : Nat) (C : CallC) (a : SV) (b : Heap) : Rs :=
 o.rest a fun c =>
 some (c, b)
def f65 (o : Ops) (K : Nat) (C : CallC) (a b : SV) (H : Heap) : Rs :=
 o.eql a (.int .i64 0) fun c =>
 (o.guard c
 ((f65_j1 o K C (.bool true) H))
 (o.leq a (.int .i64 16) fun d =>
 (o.guard d
 (o.geq b (.int .i64 1) fun e =>
 (o.guard e
 (o.leq b (.int .i64 16) fun f =>
 (f65_j1 o K C f H))
 ((f65_j1 o K C (.bool false) H))
 (none)))
 ((f65_j1 o K C (.bool false) H))
 (none)))
 (none))
def f66_j3 (o : Ops) (K : Nat) (C : CallC) (a e f g : SV) (b : Heap) : Rs :=
 (o.cond g
 (o.build [.bool false, .slice nilSl] [] [] fun h =>
 o.bstore 0 2 a h fun i =>
 o.resc 2 true (.box i) fun j =>
 some (.tuple [j, (.int .i64 12)], b))
 (o.call (C 88 [f] b) fun c d =>
 o.ext 0 c fun k =>
 o.ext 1 c fun l =>
 o.u_not l fun m =>
 (o.cond m
 (o.build [.bool false, .slice nilSl] [] [] fun n =>
 o.bstore 0 2 a n fun p =>
 o.resc 2 true (.box p) fun q =>
 some (.tuple [q, (.int .i64 3)], d))
 (o.build [.bool false, .slice nilSl] [(0, 1), (1, 1)] [e, k] fun r =>
 o.bstore 0 2 a r fun s =>
 o.resc 2 true (.box s) fun t =>
 some (.tuple [t, (.int .i64 0)], d)))))
def f66_j2 (o : Ops) (K : Nat) (C : CallC) (c b a : SV) (e : Heap) : Rs :=
 o.call (C 87 [a] e) fun f d =>
 o.u_not f fun g =>
 (o.guard g
 ((f66_j3 o K C c b a (.bool true) d))
 ((o.guard b
 (o.eql a (.str [48]) fun h =>
 (f66_j3 o K C c b a h d))
 ((f66_j3 o K C c b a (.bool false) d))
 (none)))
 (none))
def f66_j1 (o : Ops) (K : Nat) (C : CallC) (b c a : SV) (d : Heap) : Rs :=
 (o.cond a
 (o.strcut10 b (.int .i64 1) fun e =>
 (f66_j2 o K C c a e d))
 ((f66_j2 o K C c a b d)))
def f66 (o : Ops) (K : Nat) (C : CallC) (a : SV) (H : Heap) : Rs :=
 o.slen a fun b =>
 o.gtr b (.int .i64 0) fun c =>
 (o.guard c
 (o.stridx a (.int .i64 0) fun d =>
 o.eql d (.int .u8 45) fun e =>
 (f66_j1 o K C a (.box [.bool false, .slice nilSl]) e H))
 ((f66_j1 o K C a (.box [.bool false, .slice nilSl]) (.bool false) H))
 (none))
def f67 (o : Ops) (K : Nat) (C : CallC) (b c : SV) (H : Heap) : Rs :=
 o.bbox b fun d =>
 o.bbox c fun e =>
 o.lload 0 2 true (.box d) fun f =>
 o.lload 0 2 true (.box e) fun g =>
 o.call (C 38 [g] H) fun h i =>
 o.call (C 59 [f, h] i) fun a j =>
 o.ext 0 a fun k =>
 o.ext 1 a fun l =>
 o.bstore 0 2 (.box [.bool false, .slice nilSl]) k fun m =>
 o.resc 2 true (.box m) fun n =>
 o.rest l fun p =>
 some (.tuple [n, p], j)
def f68 (o : Ops) (K : Nat) (C : CallC) (e f : SV) (H : Heap) : Rs :=
 o.bbox e fun g =>
 o.bbox f fun h =>
 o.lload 0 2 true (.box g) fun i =>
 o.lload 0 2 true (.box h) fun j =>
 o.call (C 89 [i, j] H) fun a b =>
 o.ext 0 a fun k =>
 o.ext 1 a fun l =>
 o.ext 2 a fun c =>
 o.bstore 0 2 (.box [.bool false, .slice nilSl]) k fun m =>
 o.bstore 0 2 (.box [.bool false, .slice nilSl]) l fun n =>
 o.neq c (.int .i64 0) fun p =>
 (o.cond p
 (o.build [.bool false, .slice nilSl] [] [] fun q =>
 o.bstore 0 2 (.box [.bool false, .slice nilSl]) q fun r =>
 o.resc 2 true (.box r) fun s =>
 o.rest c fun t =>
 some (.tuple [s, t], b))
 (o.lload 0 2 true (.box n) fun u =>
 o.call (C 14 [u] b) fun v d =>
 o.neq v (.int .i64 0) fun w =>
 (o.cond w
 (o.build [.bool false, .slice nilSl] [] [] fun x =>
 o.bstore 0 2 (.box [.bool false, .slice nilSl]) x fun y =>
 o.resc 2 true (.box y) fun z =>
 some (.tuple [z, (.int .i64 2)], d))
 (o.lload 0 2 true (.box m) fun A =>
 o.bstore 0 2 (.box [.bool false, .slice nilSl]) A fun B =>
 o.resc 2 true (.box B) fun D =>
 some (.tuple [D, (.int .i64 0)], d)))))
def f69_j2 (o : Ops) (K : Nat) (C : CallC) (a b : SV) (c : Heap) : Rs :=
 o.conv .u8 a fun d =>
 o.stridx (.str [0, 1, 2, 2, 3, 3, 3, 3, 4, 4, 4, 4, 4, 4, 4, 4, 5, 5, 5, 5, 5, 5, 5, 5, 5, 5, 5, 5, 5, 5, 5, 5, 6, 6, 6, 6, 6, 6, 6, 6, 6, 6, 6, 6, 6, 6, 6, 6, 6, 6, 6, 6, 6, 6, 6, 6, 6, 6, 6, 6, 6, 6, 6, 6, 7, 7, 7, 7, 7, 7, 7, 7, 7, 7, 7, 7, 7, 7, 7, 7, 7, 7, 7, 7, 7, 7, 7, 7, 7, 7, 7, 7, 7, 7, 7, 7, 7, 7, 7, 7, 7, 7, 7, 7, 7, 7, 7, 7, 7, 7, 7, 7, 7, 7, 7, 7, 7, 7, 7, 7, 7, 7, 7, 7, 7, 7, 7, 7, 8, 8, 8, 8, 8, 8, 8, 8, 8, 8, 8, 8, 8, 8, 8, 8, 8, 8, 8, 8, 8, 8, 8, 8, 8, 8, 8, 8, 8, 8, 8, 8, 8, 8, 8, 8, 8, 8, 8, 8, 8, 8, 8, 8, 8, 8, 8, 8, 8, 8, 8, 8, 8, 8, 8, 8, 8, 8, 8, 8, 8, 8, 8, 8, 8, 8, 8, 8, 8, 8, 8, 8, 8, 8, 8, 8, 8, 8, 8, 8, 8, 8, 8, 8, 8, 8, 8, 8, 8, 8, 8, 8, 8, 8, 8, 8, 8, 8, 8, 8, 8, 8, 8, 8, 8, 8, 8, 8, 8, 8, 8, 8, 8, 8, 8, 8, 8, 8, 8, 8, 8, 8, 8, 8, 8, 8, 8, 8]) d fun e =>
 o.conv .i64 e fun f =>
 o.add b f fun g =>
 o.rest g fun h =>
 some (h, c)
def f69_j1 (o : Ops) (K : Nat) (C : CallC) (a b : SV) (c : Heap) : Rs :=
 o.geq a (.int .u32 256) fun d =>
 (o.cond d
 (o.shr a (.int .u64 8) fun e =>
 o.add b (.int .i64 8) fun f =>
 (f69_j2 o K C e f c))
 ((f69_j2 o K C a b c)))
def f69 (o : Ops) (K : Nat) (C : CallC) (a : SV) (H : Heap) : Rs :=
 o.geq a (.int .u32 65536) fun b =>
 (o.cond b
 (o.shr a (.int .u64 16) fun c =>
 (f69_j1 o K C c (.int .i64 16) H))
 ((f69_j1 o K C a (.int .i64 0) H)))
def f70_j1 (o : Ops) (K : Nat) (C : CallC) (a : SV) (b : Heap) : Rs :=
 o.resc 2 true a fun c =>
 some (c, b)
def f70 (o : Ops) (K : Nat) (C : CallC) (b c : SV) (H : Heap) : Rs :=
 o.bbox c fun a =>
 (o.guard b
 (o.lload 0 1 true (.box a) fun d =>
 o.call (C 34 [d] H) fun e f =>
 o.gtr e (.int .i64 0) fun g =>
 o.lload 0 1 true (.box a) fun h =>
 o.build [.bool false, .slice nilSl] [(0, 1), (1, 1)] [g, h] fun i =>
 o.bstore 0 2 (.box [.bool false, .slice nilSl]) i fun j =>
 (f70_j1 o K C (.box j) f))
 (o.lload 0 1 true (.box a) fun k =>
 o.build [.bool false, .slice nilSl] [(0, 1), (1, 1)] [(.bool false), k] fun l =>
 o.bstore 0 2 (.box [.bool false, .slice nilSl]) l fun m =>
 (f70_j1 o K C (.box m) H))
 (none))
def f71 (o : Ops) (K : Nat) (C : CallC) (a : SV) (H : Heap) : Rs :=
 o.conv .u32 a fun b =>
 o.shr a (.int .u64 32) fun c =>
 o.conv .u32 c fun d =>
 o.hbuild 1 [.int .u32 0, .int .u32 0] [(0, 1), (1, 1)] [b, d] H fun e f =>
 o.call (C 77 [e] f) fun g h =>
 o.bstore 0 1 (.box [.slice nilSl]) g fun i =>
 o.resc 1 true (.box i) fun j =>
 some (j, h)
def f72 (o : Ops) (K : Nat) (C : CallC) (a : SV) (H : Heap) : Rs :=
 o.call (C 90 [a] H) fun b c =>
 o.rest b fun d =>
 some (d, c)
def f73_j1 (o : Ops) (K : Nat) (C : CallC) (a b c : SV) (d : Heap) : Rs :=
 o.lss a (.int .i64 0) fun e =>
 o.call (C 45 [c] d) fun f g =>
 o.build [.bool false, .slice nilSl] [(0, 1), (1, 1)] [e, f] fun h =>
 o.bstore 0 2 b h fun i =>
 o.resc 2 true (.box i) fun j =>
 some (j, g)
def f73 (o : Ops) (K : Nat) (C : CallC) (a : SV) (H : Heap) : Rs :=
 o.conv .u64 a fun b =>
 o.lss a (.int .i64 0) fun c =>
 (o.cond c
 (o.u_neg b fun d =>
 (f73_j1 o K C a (.box [.bool false, .slice nilSl]) d H))
 ((f73_j1 o K C a (.box [.bool false, .slice nilSl]) b H)))
def f74_j1 (o : Ops) (K : Nat) (C : CallC) (a : SV) (b : Heap) : Rs :=
 o.resc 2 true a fun c =>
 some (c, b)
def f74 (o : Ops) (K : Nat) (C : CallC) (f g : SV) (H : Heap) : Rs :=
 o.bbox f fun a =>
 o.bbox g fun b =>
 o.lfld 1 (.box a) fun h =>
 o.lloadp 1 false (.box a) h fun i =>
 o.lfld 1 (.box b) fun j =>
 o.lloadp 1 false (.box b) j fun k =>
 o.call (C 78 [i, k] H) fun d e =>
 o.ext 0 d fun c =>
 o.ext 1 d fun x =>
 o.lfld 0 (.box a) fun l =>
 o.lloadp 1 false (.box a) l fun m =>
 o.lfld 0 (.box b) fun n =>
 o.lloadp 1 false (.box b) n fun p =>
 o.b_neq m p fun q =>
 (o.guard q
 (o.len c fun r =>
 o.gtr r (.int .i64 0) fun s =>
 o.build [.bool false, .slice nilSl] [(0, 1), (1, 1)] [s, c] fun t =>
 o.bstore 0 2 (.box [.bool false, .slice nilSl]) t fun u =>
 (f74_j1 o K C (.box u) e))
 (o.build [.bool false, .slice nilSl] [(0, 1), (1, 1)] [(.bool false), c] fun v =>
 o.bstore 0 2 (.box [.bool false, .slice nilSl]) v fun w =>
 (f74_j1 o K C (.box w) e))
 (none))
def f75_j2 (o : Ops) (K : Nat) (C : CallC) (a : SV) (b : Heap) : Rs :=
 o.resc 2 true a fun c =>
 some (c, b)
def f75 (o : Ops) (K : Nat) (C : CallC) (f g : SV) (H : Heap) : Rs :=
 o.bbox f fun a =>
 o.bbox g fun b =>
 o.lfld 0 (.box a) fun h =>
 o.lloadp 1 false (.box a) h fun i =>
 o.lfld 0 (.box b) fun j =>
 o.lloadp 1 false (.box b) j fun k =>
 o.b_eql i k fun l =>
 (o.cond l
 (o.lfld 0 (.box a) fun m =>
 o.lloadp 1 false (.box a) m fun n =>
 o.lfld 1 (.box a) fun p =>
 o.lloadp 1 false (.box a) p fun q =>
 o.lfld 1 (.box b) fun r =>
 o.lloadp 1 false (.box b) r fun s =>
 o.call (C 91 [q, s] H) fun t u =>
 o.build [.bool false, .slice nilSl] [(0, 1), (1, 1)] [n, t] fun v =>
 o.bstore 0 2 (.box [.bool false, .slice nilSl]) v fun w =>
 o.resc 2 true (.box w) fun x =>
 some (x, u))
 (o.lfld 1 (.box a) fun y =>
 o.lloadp 1 false (.box a) y fun z =>
 o.lfld 1 (.box b) fun A =>
 o.lloadp 1 false (.box b) A fun B =>
 o.call (C 92 [z, B] H) fun D d =>
 o.geq D (.int .i64 0) fun E =>
 (o.cond E
 (o.lfld 1 (.box a) fun F =>
 o.lloadp 1 false (.box a) F fun G =>
 o.lfld 1 (.box b) fun I =>
 o.lloadp 1 false (.box b) I fun J =>
 o.call (C 93 [G, J] d) fun c e =>
 o.lfld 0 (.box a) fun L =>
 o.lloadp 1 false (.box a) L fun M =>
 (o.guard M
 (o.len c fun N =>
 o.gtr N (.int .i64 0) fun P =>
 o.build [.bool false, .slice nilSl] [(0, 1), (1, 1)] [P, c] fun Q =>
 o.bstore 0 2 (.box [.bool false, .slice nilSl]) Q fun S =>
 (f75_j2 o K C (.box S) e))
 (o.build [.bool false, .slice nilSl] [(0, 1), (1, 1)] [(.bool false), c] fun T =>
 o.bstore 0 2 (.box [.bool false, .slice nilSl]) T fun U =>
 (f75_j2 o K C (.box U) e))
 (none)))
 (o.lfld 0 (.box b) fun V =>
 o.lloadp 1 false (.box b) V fun W =>
 o.lfld 1 (.box b) fun X =>
 o.lloadp 1 false (.box b) X fun Y =>
 o.lfld 1 (.box a) fun Z =>
 o.lloadp 1 false (.box a) Z fun aa =>
 o.call (C 93 [Y, aa] d) fun ab ac =>
 o.build [.bool false, .slice nilSl] [(0, 1), (1, 1)] [W, ab] fun ad =>
 o.bstore 0 2 (.box [.bool false, .slice nilSl]) ad fun ae =>
 o.resc 2 true (.box ae) fun af =>
 some (af, ac)))))
def f76_l1 (o : Ops) (K : Nat) (C : CallC) : SV -> SV -> SV -> SV -> Heap -> (SV -> SV -> SV -> SV -> Heap -> Rs) -> Rs := fun b c e a d g =>
 o.geq a (.int .i64 0) fun h =>
 (o.cond h
 (o.shl e (.int .u64 32) fun i =>
 o.idx 1 b a fun j =>
 o.load 1 false j d fun k =>
 o.conv .u64 k fun l =>
 o.or i l fun f =>
 o.conv .u64 c fun m =>
 o.quo f m fun n =>
 o.conv .u32 n fun p =>
 o.conv .u64 c fun q =>
 o.rem f q fun r =>
 o.idx 1 b a fun s =>
 o.store 1 s p d fun t =>
 o.sub a (.int .i64 1) fun u =>
 g b c r u t)
 (o.conv .u32 e fun v =>
 o.rest v fun w =>
 some (w, d)))
def f76 (o : Ops) (K : Nat) (C : CallC) (a b : SV) (H : Heap) : Rs :=
 o.len a fun c =>
 o.sub c (.int .i64 1) fun d =>
 (o.loop4 (f76_l1 o K C) K a b (.int .u64 0) d H)
def f77_j2 (o : Ops) (K : Nat) (C : CallC) (e : SV -> SV -> SV -> Heap -> Rs) (c d a f : SV) (b : Heap) : Rs :=
 (o.cond f
 (o.sub a (.int .i64 1) fun g =>
 e c d g b)
 (o.slice011 1 c a a b fun h =>
 o.build [.slice nilSl] [(0, 1)] [h] fun i =>
 o.bstore 0 1 d i fun j =>
 o.resc 1 true (.box j) fun k =>
 some (k, b)))
def f77_l1 (o : Ops) (K : Nat) (C : CallC) : SV -> SV -> SV -> Heap -> (SV -> SV -> SV -> Heap -> Rs) -> Rs := fun b d a c e =>
 o.gtr a (.int .i64 0) fun f =>
 (o.guard f
 (o.sub a (.int .i64 1) fun g =>
 o.idx 1 b g fun h =>
 o.load 1 false h c fun i =>
 o.eql i (.int .u32 0) fun j =>
 (f77_j2 o K C e b d a j c))
 ((f77_j2 o K C e b d a (.bool false) c))
 (none))
def f77 (o : Ops) (K : Nat) (C : CallC) (a : SV) (H : Heap) : Rs :=
 o.len a fun b =>
 (o.loop3 (f77_l1 o K C) K a (.box [.slice nilSl]) b H)
def f78_j5 (o : Ops) (K : Nat) (C : CallC) (a : SV -> SV -> SV -> SV -> SV -> SV -> SV -> Heap -> Rs) (b c d e f g h : SV) (i : Heap) : Rs :=
 a b c d e f g h i
def f78_l3 (o : Ops) (K : Nat) (C : CallC) (l : SV -> SV -> SV -> SV -> SV -> Heap -> Rs) : SV -> SV -> SV -> SV -> SV -> SV -> SV -> Heap -> (SV -> SV -> SV -> SV -> SV -> SV -> SV -> Heap -> Rs) -> Rs := fun f a c d e b g i j =>
 o.sub g b fun m =>
 o.gtr m (.int .u64 1) fun n =>
 (o.cond n
 (o.add b g fun p =>
 o.quo p (.int .u64 2) fun h =>
 o.call (C 45 [h] i) fun q r =>
 o.call (C 80 [q, a] r) fun s t =>
 o.call (C 92 [s, d] t) fun u k =>
 o.leq u (.int .i64 0) fun v =>
 (o.cond v
 ((f78_j5 o K C j f a c d e h g k))
 ((f78_j5 o K C j f a c d e b h k))))
 (o.conv .u32 b fun w =>
 o.idx 1 c e fun x =>
 o.store 1 x w i fun y =>
 o.call (C 45 [b] y) fun z A =>
 o.call (C 80 [z, a] A) fun B D =>
 o.call (C 93 [d, B] D) fun E F =>
 o.sub e (.int .i64 1) fun G =>
 l f a c E G F))
def f78_l1 (o : Ops) (K : Nat) (C : CallC) : SV -> SV -> SV -> SV -> SV -> Heap -> (SV -> SV -> SV -> SV -> SV -> Heap -> Rs) -> Rs := fun c f d e a b g =>
 o.geq a (.int .i64 0) fun h =>
 (o.cond h
 (o.idx 1 c a fun i =>
 o.load 1 false i b fun j =>
 o.hbuild 1 [.int .u32 0] [(0, 1)] [j] b fun k l =>
 o.append 1 4 k e l fun m n =>
 o.call (C 94 [m] n) fun p q =>
 (o.loop7 (f78_l3 o K C g) K c f d p a (.int .u64 0) (.int .u64 65536) q))
 (o.call (C 94 [d] b) fun r s =>
 o.rest r fun t =>
 o.rest e fun u =>
 some (.tuple [t, u], s)))
def f78 (o : Ops) (K : Nat) (C : CallC) (a c : SV) (H : Heap) : Rs :=
 o.len a fun b =>
 o.make 1 4 [.int .u32 0] b b H fun d e =>
 o.len a fun f =>
 o.sub f (.int .i64 1) fun g =>
 (o.loop5 (f78_l1 o K C) K a c d (.slice nilSl) g e)
def f79_l2 (o : Ops) (K : Nat) (C : CallC) : SV -> SV -> SV -> Heap -> (SV -> SV -> SV -> Heap -> Rs) -> Rs := fun c d a b e =>
 o.geq a (.int .i64 0) fun f =>
 (o.cond f
 (o.mul d (.int .u64 65536) fun g =>
 o.idx 1 c a fun h =>
 o.load 1 false h b fun i =>
 o.conv .u64 i fun j =>
 o.add g j fun k =>
 o.sub a (.int .i64 1) fun l =>
 e c k l b)
 (o.rest d fun m =>
 some (.tuple [m, (.bool true)], b)))
def f79 (o : Ops) (K : Nat) (C : CallC) (a : SV) (H : Heap) : Rs :=
 o.len a fun b =>
 o.gtr b (.int .i64 4) fun c =>
 (o.cond c
 (some (.tuple [(.int .u64 0), (.bool false)], H))
 (o.len a fun d =>
 o.sub d (.int .i64 1) fun e =>
 (o.loop3 (f79_l2 o K C) K a (.int .u64 0) e H)))
def f80_j6 (o : Ops) (K : Nat) (C : CallC) (e : SV -> SV -> SV -> SV -> SV -> SV -> Heap -> Rs) (f g a b c d : SV) (h : Heap) : Rs :=
 o.add b c fun i =>
 o.rem d (.int .u64 65536) fun j =>
 o.conv .u32 j fun k =>
 o.idx 1 a i fun l =>
 o.store 1 l k h fun m =>
 o.quo d (.int .u64 65536) fun n =>
 o.add c (.int .i64 1) fun p =>
 e f g a b n p m
def f80_j4 (o : Ops) (K : Nat) (C : CallC) (i : SV -> SV -> SV -> SV -> Heap -> Rs) (g : SV -> SV -> SV -> SV -> SV -> SV -> Heap -> Rs) (e b f c j d k : SV) (a : Heap) : Rs :=
 (o.cond k
 (o.add c d fun l =>
 o.idx 1 f l fun m =>
 o.load 1 false m a fun n =>
 o.conv .u64 n fun p =>
 o.add p j fun h =>
 o.len b fun q =>
 o.lss d q fun r =>
 (o.cond r
 (o.idx 1 e c fun s =>
 o.load 1 false s a fun t =>
 o.conv .u64 t fun u =>
 o.idx 1 b d fun v =>
 o.load 1 false v a fun w =>
 o.conv .u64 w fun x =>
 o.mul u x fun y =>
 o.add h y fun z =>
 (f80_j6 o K C g e b f c d z a))
 ((f80_j6 o K C g e b f c d h a))))
 (o.add c (.int .i64 1) fun A =>
 i e b f A a))
def f80_l3 (o : Ops) (K : Nat) (C : CallC) (d : SV -> SV -> SV -> SV -> Heap -> Rs) : SV -> SV -> SV -> SV -> SV -> SV -> Heap -> (SV -> SV -> SV -> SV -> SV -> SV -> Heap -> Rs) -> Rs := fun e a f g b c h i =>
 o.len a fun j =>
 o.lss c j fun k =>
 (o.guard k
 ((f80_j4 o K C d i e a f g b c (.bool true) h))
 (o.gtr b (.int .u64 0) fun l =>
 (f80_j4 o K C d i e a f g b c l h))
 (none))
def f80_l1 (o : Ops) (K : Nat) (C : CallC) : SV -> SV -> SV -> SV -> Heap -> (SV -> SV -> SV -> SV -> Heap -> Rs) -> Rs := fun a e b c d f =>
 o.len a fun g =>
 o.lss c g fun h =>
 (o.cond h
 ((o.loop6 (f80_l3 o K C f) K a e b c (.int .u64 0) (.int .i64 0) d))
 (o.call (C 94 [b] d) fun i j =>
 o.rest i fun k =>
 some (k, j)))
def f80 (o : Ops) (K : Nat) (C : CallC) (a b : SV) (H : Heap) : Rs :=
 o.len a fun d =>
 o.len b fun e =>
 o.add d e fun c =>
 o.make 1 4 [.int .u32 0] c c H fun f g =>
 (o.loop4 (f80_l1 o K C) K a b f (.int .i64 0) g)
def f81 (o : Ops) (K : Nat) (C : CallC) (c d a e : SV) (H : Heap) : Rs :=
 o.load 1 false a H fun f =>
 o.neq f (.int .i64 0) fun g =>
 (o.cond g
 (o.build [.bool false, .slice nilSl] [] [] fun h =>
 o.bstore 0 2 (.box [.bool false, .slice nilSl]) h fun i =>
 o.resc 2 true (.box i) fun j =>
 some (j, H))
 (o.load 1 false e H fun k =>
 o.callv C [k, c, d] H fun b l =>
 o.ext 0 b fun m =>
 o.ext 1 b fun n =>
 o.bstore 0 2 (.box [.bool false, .slice nilSl]) m fun p =>
 o.store 1 a n l fun q =>
 o.lload 0 2 true (.box p) fun r =>
 o.bstore 0 2 (.box [.bool false, .slice nilSl]) r fun s =>
 o.resc 2 true (.box s) fun t =>
 some (t, q)))
def f82 (o : Ops) (K : Nat) (C : CallC) (e f : SV) (H : Heap) : Rs :=
 o.bbox e fun a =>
 o.bbox f fun b =>
 o.lload 0 1 true (.box a) fun g =>
 o.call (C 34 [g] H) fun h i =>
 o.lload 0 1 true (.box b) fun j =>
 o.call (C 34 [j] i) fun k c =>
 o.add h k fun l =>
 o.gtr l (.int .i64 4097) fun m =>
 (o.cond m
 (o.build [.slice nilSl] [] [] fun n =>
 o.bstore 0 1 (.box [.slice nilSl]) n fun p =>
 o.resc 1 true (.box p) fun q =>
 some (.tuple [q, (.int .i64 3)], c))
 (o.lload 0 1 true (.box a) fun r =>
 o.lload 0 1 true (.box b) fun s =>
 o.call (C 95 [r, s] c) fun t u =>
 o.call (C 96 [t] u) fun d v =>
 o.ext 0 d fun w =>
 o.ext 1 d fun x =>
 o.bstore 0 1 (.box [.slice nilSl]) w fun y =>
 o.resc 1 true (.box y) fun z =>
 o.rest x fun A =>
 some (.tuple [z, A], v)))
def f83_j4 (o : Ops) (K : Nat) (C : CallC) (c : SV -> SV -> SV -> SV -> SV -> SV -> Heap -> Rs) (d e a b f g h : SV) (i : Heap) : Rs :=
 o.conv .u32 b fun j =>
 o.idx 1 a f fun k =>
 o.store 1 k j i fun l =>
 o.shr b (.int .u64 32) fun m =>
 o.add h (.int .i64 1) fun n =>
 c d e a m g n l
def f83_l2 (o : Ops) (K : Nat) (C : CallC) : SV -> SV -> SV -> SV -> SV -> SV -> Heap -> (SV -> SV -> SV -> SV -> SV -> SV -> Heap -> Rs) -> Rs := fun b e d j f a c g =>
 o.lss a f fun k =>
 (o.cond k
 (o.idx 1 d a fun l =>
 o.load 1 false l c fun m =>
 o.conv .u64 m fun n =>
 o.add j n fun h =>
 o.lfld 0 b fun p =>
 o.lloadp 1 false b p fun q =>
 o.len q fun r =>
 o.lss a r fun s =>
 (o.cond s
 (o.lfld 0 b fun t =>
 o.lloadp 1 false b t fun u =>
 o.idx 1 u a fun v =>
 o.load 1 false v c fun w =>
 o.conv .u64 w fun x =>
 o.add h x fun y =>
 (f83_j4 o K C g b e d y a f a c))
 ((f83_j4 o K C g b e d h a f a c))))
 (o.call (C 77 [d] c) fun z A =>
 o.call (C 96 [z] A) fun i B =>
 o.ext 0 i fun D =>
 o.ext 1 i fun E =>
 o.bstore 0 1 e D fun F =>
 o.resc 1 true (.box F) fun G =>
 o.rest E fun I =>
 some (.tuple [G, I], B)))
def f83_j1 (o : Ops) (K : Nat) (C : CallC) (a d e : SV) (f : Heap) : Rs :=
 o.lfld 0 a fun g =>
 o.lloadp 1 false a g fun h =>
 o.len h fun i =>
 o.add i (.int .i64 1) fun c =>
 o.make 1 4 [.int .u32 0] c c f fun b j =>
 o.lfld 0 a fun k =>
 o.lloadp 1 false a k fun l =>
 o.copy 1 b l j fun p m =>
 o.len b fun n =>
 (o.loop6 (f83_l2 o K C) K d e b (.int .u64 0) n (.int .i64 0) m)
def f83 (o : Ops) (K : Nat) (C : CallC) (c d : SV) (H : Heap) : Rs :=
 o.bbox c fun a =>
 o.bbox d fun b =>
 o.lfld 0 (.box a) fun e =>
 o.lloadp 1 false (.box a) e fun f =>
 o.len f fun g =>
 o.lfld 0 (.box b) fun h =>
 o.lloadp 1 false (.box b) h fun i =>
 o.len i fun j =>
 o.lss g j fun k =>
 (o.cond k
 (o.lload 0 1 true (.box b) fun l =>
 o.lload 0 1 true (.box a) fun m =>
 o.bstore 0 1 (.box a) l fun n =>
 o.bstore 0 1 (.box b) m fun p =>
 (f83_j1 o K C (.box n) (.box p) (.box [.slice nilSl]) H))
 ((f83_j1 o K C (.box a) (.box b) (.box [.slice nilSl]) H)))
def f84_l3 (o : Ops) (K : Nat) (C : CallC) : SV -> SV -> SV -> Heap -> (SV -> SV -> SV -> Heap -> Rs) -> Rs := fun c d b a e =>
 o.geq b (.int .i64 0) fun f =>
 (o.cond f
 (o.lfld 0 c fun g =>
 o.lloadp 1 false c g fun h =>
 o.idx 1 h b fun i =>
 o.load 1 false i a fun j =>
 o.lfld 0 d fun k =>
 o.lloadp 1 false d k fun l =>
 o.idx 1 l b fun m =>
 o.load 1 false m a fun n =>
 o.lss j n fun p =>
 (o.cond p
 (some ((.int .i64 (-1)), a))
 (o.lfld 0 c fun q =>
 o.lloadp 1 false c q fun r =>
 o.idx 1 r b fun s =>
 o.load 1 false s a fun t =>
 o.lfld 0 d fun u =>
 o.lloadp 1 false d u fun v =>
 o.idx 1 v b fun w =>
 o.load 1 false w a fun x =>
 o.gtr t x fun y =>
 (o.cond y
 (some ((.int .i64 1), a))
 (o.sub b (.int .i64 1) fun z =>
 e c d z a)))))
 (some ((.int .i64 0), a)))
def f84 (o : Ops) (K : Nat) (C : CallC) (c d : SV) (H : Heap) : Rs :=
 o.bbox c fun a =>
 o.bbox d fun b =>
 o.lfld 0 (.box a) fun e =>
 o.lloadp 1 false (.box a) e fun f =>
 o.len f fun g =>
 o.lfld 0 (.box b) fun h =>
 o.lloadp 1 false (.box b) h fun i =>
 o.len i fun j =>
 o.neq g j fun k =>
 (o.cond k
 (o.lfld 0 (.box a) fun l =>
 o.lloadp 1 false (.box a) l fun m =>
 o.len m fun n =>
 o.lfld 0 (.box b) fun p =>
 o.lloadp 1 false (.box b) p fun q =>
 o.len q fun r =>
 o.lss n r fun s =>
 (o.cond s
 (some ((.int .i64 (-1)), H))
 (some ((.int .i64 1), H))))
 (o.lfld 0 (.box a) fun t =>
 o.lloadp 1 false (.box a) t fun u =>
 o.len u fun v =>
 o.sub v (.int .i64 1) fun w =>
 (o.loop3 (f84_l3 o K C) K (.box a) (.box b) w H)))
def f85 (o : Ops) (K : Nat) (C : CallC) (f g : SV) (H : Heap) : Rs :=
 o.bbox f fun a =>
 o.bbox g fun b =>
 o.lload 0 1 true (.box a) fun h =>
 o.lload 0 1 true (.box b) fun i =>
 o.call (C 84 [h, i] H) fun j d =>
 o.lss j (.int .i64 0) fun k =>
 (o.cond k
 (o.build [.slice nilSl] [] [] fun l =>
 o.bstore 0 1 (.box [.slice nilSl]) l fun m =>
 o.resc 1 true (.box m) fun n =>
 some (.tuple [n, (.int .i64 10)], d))
 (o.lfld 0 (.box a) fun p =>
 o.lloadp 1 false (.box a) p fun q =>
 o.len q fun e =>
 o.make 1 4 [.int .u32 0] e e d fun c r =>
 o.lfld 0 (.box a) fun s =>
 o.lloadp 1 false (.box a) s fun t =>
 o.copy 1 c t r fun D u =>
 o.lfld 0 (.box b) fun v =>
 o.lloadp 1 false (.box b) v fun w =>
 o.call (C 97 [c, w] u) fun E x =>
 o.call (C 77 [c] x) fun y z =>
 o.bstore 0 1 (.box [.slice nilSl]) y fun A =>
 o.resc 1 true (.box A) fun B =>
 some (.tuple [B, (.int .i64 0)], z)))
def f86_j5 (o : Ops) (K : Nat) (C : CallC) (c : SV -> SV -> SV -> SV -> Heap -> Rs) (d a e f g : SV) (b : Heap) : Rs :=
 (o.cond g
 (o.build [.slice nilSl] [] [] fun h =>
 o.bstore 0 1 a h fun i =>
 o.resc 1 true (.box i) fun j =>
 some (.tuple [j, (.int .i64 12)], b))
 (o.add f (.int .i64 1) fun k =>
 c d a e k b))
def f86_j20 (o : Ops) (K : Nat) (C : CallC) (a : SV -> SV -> SV -> Heap -> Rs) (b c d e : SV) (f : Heap) : Rs :=
 o.strcut10 b e fun g =>
 a g c d f
def f86_l16 (o : Ops) (K : Nat) (C : CallC) (h : SV -> SV -> SV -> Heap -> Rs) : SV -> SV -> SV -> SV -> SV -> SV -> SV -> SV -> Heap -> (SV -> SV -> SV -> SV -> SV -> SV -> SV -> SV -> Heap -> Rs) -> Rs := fun d e a f g i j b c l =>
 o.lss b j fun m =>
 (o.cond m
 (o.idx 1 a b fun n =>
 o.load 1 false n c fun p =>
 o.conv .u64 p fun q =>
 o.mul q i fun r =>
 o.add r g fun k =>
 o.conv .u32 k fun s =>
 o.shr k (.int .u64 32) fun t =>
 o.idx 1 a b fun u =>
 o.store 1 u s c fun v =>
 o.add b (.int .i64 1) fun w =>
 l d e a f t i j w v)
 (o.gtr g (.int .u64 0) fun x =>
 (o.cond x
 (o.conv .u32 g fun y =>
 o.hbuild 1 [.int .u32 0] [(0, 1)] [y] c fun z A =>
 o.append 1 4 a z A fun B D =>
 (f86_j20 o K C h d e B f D))
 ((f86_j20 o K C h d e a f c)))))
def f86_l12 (o : Ops) (K : Nat) (C : CallC) (j : SV -> SV -> SV -> Heap -> Rs) : SV -> SV -> SV -> SV -> SV -> SV -> SV -> SV -> Heap -> (SV -> SV -> SV -> SV -> SV -> SV -> SV -> SV -> Heap -> Rs) -> Rs := fun a d b e f g h c i k =>
 o.lss c h fun l =>
 (o.cond l
 (o.mul (.int .u64 10) f fun m =>
 o.stridx a c fun n =>
 o.sub n (.int .u8 48) fun p =>
 o.conv .u64 p fun q =>
 o.add m q fun r =>
 o.mul (.int .u64 10) g fun s =>
 o.add c (.int .i64 1) fun t =>
 k a d b e r s h t i)
 (o.len b fun u =>
 (o.loop8 (f86_l16 o K C j) K a d b e f g u (.int .i64 0) i)))
def f86_l10 (o : Ops) (K : Nat) (C : CallC) : SV -> SV -> SV -> Heap -> (SV -> SV -> SV -> Heap -> Rs) -> Rs := fun a b c d g =>
 o.slen a fun h =>
 o.gtr h (.int .i64 0) fun i =>
 (o.cond i
 (o.slen a fun j =>
 o.sub j (.int .i64 1) fun k =>
 o.rem k (.int .i64 9) fun l =>
 o.add l (.int .i64 1) fun e =>
 (o.loop8 (f86_l12 o K C g) K a b c e (.int .u64 0) (.int .u64 1) e (.int .i64 0) d))
 (o.call (C 77 [c] d) fun m n =>
 o.call (C 96 [m] n) fun f p =>
 o.ext 0 f fun q =>
 o.ext 1 f fun r =>
 o.bstore 0 1 b q fun s =>
 o.resc 1 true (.box s) fun t =>
 o.rest r fun u =>
 some (.tuple [t, u], p)))
def f86_l3 (o : Ops) (K : Nat) (C : CallC) : SV -> SV -> SV -> SV -> Heap -> (SV -> SV -> SV -> SV -> Heap -> Rs) -> Rs := fun a c e b d f =>
 o.lss b e fun g =>
 (o.cond g
 (o.stridx a b fun h =>
 o.lss h (.int .u8 48) fun i =>
 (o.guard i
 ((f86_j5 o K C f a c e b (.bool true) d))
 (o.stridx a b fun j =>
 o.gtr j (.int .u8 57) fun k =>
 (f86_j5 o K C f a c e b k d))
 (none)))
 (o.slen a fun l =>
 o.gtr l (.int .i64 4096) fun m =>
 (o.cond m
 (o.build [.slice nilSl] [] [] fun n =>
 o.bstore 0 1 c n fun p =>
 o.resc 1 true (.box p) fun q =>
 some (.tuple [q, (.int .i64 3)], d))
 ((o.loop3 (f86_l10 o K C) K a c (.slice nilSl) d)))))
def f86_j1 (o : Ops) (K : Nat) (C : CallC) (a b d : SV) (c : Heap) : Rs :=
 (o.cond d
 (o.build [.slice nilSl] [] [] fun e =>
 o.bstore 0 1 b e fun f =>
 o.resc 1 true (.box f) fun g =>
 some (.tuple [g, (.int .i64 12)], c))
 (o.slen a fun h =>
 (o.loop4 (f86_l3 o K C) K a b h (.int .i64 0) c)))
def f86 (o : Ops) (K : Nat) (C : CallC) (a : SV) (H : Heap) : Rs :=
 o.eql a (.str []) fun b =>
 (o.guard b
 ((f86_j1 o K C a (.box [.slice nilSl]) (.bool true) H))
 (o.slen a fun c =>
 o.gtr c (.int .i64 1) fun d =>
 (o.guard d
 (o.stridx a (.int .i64 0) fun e =>
 o.eql e (.int .u8 48) fun f =>
 (f86_j1 o K C a (.box [.slice nilSl]) f H))
 ((f86_j1 o K C a (.box [.slice nilSl]) (.bool false) H))
 (none)))
 (none))
def f87_j5 (o : Ops) (K : Nat) (C : CallC) (b : SV -> SV -> Heap -> Rs) (c d e : SV) (a : Heap) : Rs :=
 (o.cond e
 (some ((.bool false), a))
 (o.add d (.int .i64 1) fun f =>
 b c f a))
def f87_l3 (o : Ops) (K : Nat) (C : CallC) : SV -> SV -> Heap -> (SV -> SV -> Heap -> Rs) -> Rs := fun a b c d =>
 o.slen a fun e =>
 o.lss b e fun f =>
 (o.cond f
 (o.stridx a b fun g =>
 o.lss g (.int .u8 48) fun h =>
 (o.guard h
 ((f87_j5 o K C d a b (.bool true) c))
 (o.stridx a b fun i =>
 o.gtr i (.int .u8 57) fun j =>
 (f87_j5 o K C d a b j c))
 (none)))
 (some ((.bool true), c)))
def f87_j1 (o : Ops) (K : Nat) (C : CallC) (b c : SV) (a : Heap) : Rs :=
 (o.cond c
 (some ((.bool false), a))
 ((o.loop2 (f87_l3 o K C) K b (.int .i64 0) a)))
def f87 (o : Ops) (K : Nat) (C : CallC) (a : SV) (H : Heap) : Rs :=
 o.slen a fun b =>
 o.eql b (.int .i64 0) fun c =>
 (o.guard c
 ((f87_j1 o K C a (.bool true) H))
 (o.slen a fun d =>
 o.gtr d (.int .i64 1) fun e =>
 (o.guard e
 (o.stridx a (.int .i64 0) fun f =>
 o.eql f (.int .u8 48) fun g =>
 (f87_j1 o K C a g H))
 ((f87_j1 o K C a (.bool false) H))
 (none)))
 (none))
def f88_l2 (o : Ops) (K : Nat) (C : CallC) : SV -> SV -> SV -> Heap -> (SV -> SV -> SV -> Heap -> Rs) -> Rs := fun a b c d f =>
 o.slen a fun g =>
 o.lss c g fun h =>
 (o.cond h
 (o.call (C 45 [(.int .u64 10)] d) fun i j =>
 o.call (C 80 [b, i] j) fun k l =>
 o.stridx a c fun m =>
 o.sub m (.int .u8 48) fun n =>
 o.conv .u64 n fun p =>
 o.call (C 45 [p] l) fun q r =>
 o.call (C 91 [k, q] r) fun s t =>
 o.add c (.int .i64 1) fun u =>
 f a s u t)
 (o.call (C 98 [b] d) fun v e =>
 (o.cond v
 (some (.tuple [(.slice nilSl), (.bool false)], e))
 (o.rest b fun w =>
 some (.tuple [w, (.bool true)], e)))))
def f88 (o : Ops) (K : Nat) (C : CallC) (a : SV) (H : Heap) : Rs :=
 o.slen a fun b =>
 o.gtr b (.int .i64 1300) fun c =>
 (o.cond c
 (some (.tuple [(.slice nilSl), (.bool false)], H))
 ((o.loop3 (f88_l2 o K C) K a (.slice nilSl) (.int .i64 0) H)))
def f89_j3 (o : Ops) (K : Nat) (C : CallC) (a b c d e f : SV) (g : Heap) : Rs :=
 o.lfld 0 a fun h =>
 o.lloadp 1 false a h fun i =>
 o.lfld 0 b fun j =>
 o.lloadp 1 false b j fun k =>
 o.b_neq i k fun l =>
 o.lload 0 1 true e fun m =>
 o.call (C 70 [l, m] g) fun n p =>
 o.lload 0 1 true f fun q =>
 o.call (C 70 [(.bool false), q] p) fun r s =>
 o.bstore 0 2 c n fun t =>
 o.bstore 0 2 d r fun u =>
 o.resc 2 true (.box t) fun v =>
 o.resc 2 true (.box u) fun w =>
 some (.tuple [v, w, (.int .i64 0)], s)
def f89_j2 (o : Ops) (K : Nat) (C : CallC) (d a e f b c j : SV) (g : Heap) : Rs :=
 (o.cond j
 (o.lload 0 1 true b fun k =>
 o.call (C 71 [(.int .u64 1)] g) fun l m =>
 o.call (C 83 [k, l] m) fun h n =>
 o.ext 0 h fun p =>
 o.ext 1 h fun x =>
 o.bstore 0 1 b p fun q =>
 o.lfld 1 a fun r =>
 o.lloadp 1 true a r fun s =>
 o.lload 0 1 true c fun t =>
 o.call (C 85 [s, t] n) fun i u =>
 o.ext 0 i fun v =>
 o.ext 1 i fun y =>
 o.bstore 0 1 c v fun w =>
 (f89_j3 o K C d a e f (.box q) (.box w) u))
 ((f89_j3 o K C d a e f b c g)))
def f89 (o : Ops) (K : Nat) (C : CallC) (h i : SV) (H : Heap) : Rs :=
 o.bbox h fun a =>
 o.bbox i fun b =>
 o.lfld 1 (.box a) fun j =>
 o.lloadp 1 true (.box a) j fun k =>
 o.lfld 1 (.box b) fun l =>
 o.lloadp 1 true (.box b) l fun m =>
 o.call (C 99 [k, m] H) fun c d =>
 o.ext 0 c fun n =>
 o.ext 1 c fun p =>
 o.ext 2 c fun f =>
 o.bstore 0 1 (.box [.slice nilSl]) n fun g =>
 o.bstore 0 1 (.box [.slice nilSl]) p fun e =>
 o.neq f (.int .i64 0) fun q =>
 (o.cond q
 (o.build [.bool false, .slice nilSl] [] [] fun r =>
 o.build [.bool false, .slice nilSl] [] [] fun s =>
 o.bstore 0 2 (.box [.bool false, .slice nilSl]) r fun t =>
 o.bstore 0 2 (.box [.bool false, .slice nilSl]) s fun u =>
 o.resc 2 true (.box t) fun v =>
 o.resc 2 true (.box u) fun w =>
 o.rest f fun x =>
 some (.tuple [v, w, x], d))
 (o.lfld 0 (.box a) fun y =>
 o.lloadp 1 false (.box a) y fun z =>
 (o.guard z
 (o.lload 0 1 true (.box e) fun A =>
 o.call (C 34 [A] d) fun B D =>
 o.gtr B (.int .i64 0) fun E =>
 (f89_j2 o K C (.box a) (.box b) (.box [.bool false, .slice nilSl]) (.box [.bool false, .slice nilSl]) (.box g) (.box e) E D))
 ((f89_j2 o K C (.box a) (.box b) (.box [.bool false, .slice nilSl]) (.box [.bool false, .slice nilSl]) (.box g) (.box e) (.bool false) d))
 (none))))
def f90_j3 (o : Ops) (K : Nat) (C : CallC) (a b : SV) (c : Heap) : Rs :=
 o.conv .u8 a fun d =>
 o.stridx (.str [0, 1, 2, 2, 3, 3, 3, 3, 4, 4, 4, 4, 4, 4, 4, 4, 5, 5, 5, 5, 5, 5, 5, 5, 5, 5, 5, 5, 5, 5, 5, 5, 6, 6, 6, 6, 6, 6, 6, 6, 6, 6, 6, 6, 6, 6, 6, 6, 6, 6, 6, 6, 6, 6, 6, 6, 6, 6, 6, 6, 6, 6, 6, 6, 7, 7, 7, 7, 7, 7, 7, 7, 7, 7, 7, 7, 7, 7, 7, 7, 7, 7, 7, 7, 7, 7, 7, 7, 7, 7, 7, 7, 7, 7, 7, 7, 7, 7, 7, 7, 7, 7, 7, 7, 7, 7, 7, 7, 7, 7, 7, 7, 7, 7, 7, 7, 7, 7, 7, 7, 7, 7, 7, 7, 7, 7, 7, 7, 8, 8, 8, 8, 8, 8, 8, 8, 8, 8, 8, 8, 8, 8, 8, 8, 8, 8, 8, 8, 8, 8, 8, 8, 8, 8, 8, 8, 8, 8, 8, 8, 8, 8, 8, 8, 8, 8, 8, 8, 8, 8, 8, 8, 8, 8, 8, 8, 8, 8, 8, 8, 8, 8, 8, 8, 8, 8, 8, 8, 8, 8, 8, 8, 8, 8, 8, 8, 8, 8, 8, 8, 8, 8, 8, 8, 8, 8, 8, 8, 8, 8, 8, 8, 8, 8, 8, 8, 8, 8, 8, 8, 8, 8, 8, 8, 8, 8, 8, 8, 8, 8, 8, 8, 8, 8, 8, 8, 8, 8, 8, 8, 8, 8, 8, 8, 8, 8, 8, 8, 8, 8, 8, 8, 8, 8, 8, 8]) d fun e =>
 o.conv .i64 e fun f =>
 o.add b f fun g =>
 o.rest g fun h =>
 some (h, c)
def f90_j2 (o : Ops) (K : Nat) (C : CallC) (a b : SV) (c : Heap) : Rs :=
 o.geq a (.int .u64 256) fun d =>
 (o.cond d
 (o.shr a (.int .u64 8) fun e =>
 o.add b (.int .i64 8) fun f =>
 (f90_j3 o K C e f c))
 ((f90_j3 o K C a b c)))
def f90_j1 (o : Ops) (K : Nat) (C : CallC) (a b : SV) (c : Heap) : Rs :=
 o.geq a (.int .u64 65536) fun d =>
 (o.cond d
 (o.shr a (.int .u64 16) fun e =>
 o.add b (.int .i64 16) fun f =>
 (f90_j2 o K C e f c))
 ((f90_j2 o K C a b c)))
def f90 (o : Ops) (K : Nat) (C : CallC) (a : SV) (H : Heap) : Rs :=
 o.geq a (.int .u64 4294967296) fun b =>
 (o.cond b
 (o.shr a (.int .u64 32) fun c =>
 (f90_j1 o K C c (.int .i64 32) H))
 ((f90_j1 o K C a (.int .i64 0) H)))
def f91_j5 (o : Ops) (K : Nat) (C : CallC) (b : SV -> SV -> SV -> SV -> SV -> Heap -> Rs) (c d e f a : SV) (g : Heap) : Rs :=
 o.rem a (.int .u32 65536) fun h =>
 o.hbuild 1 [.int .u32 0] [(0, 1)] [h] g fun i j =>
 o.append 1 4 e i j fun k l =>
 o.quo a (.int .u32 65536) fun m =>
 o.add f (.int .i64 1) fun n =>
 b c d k m n l
def f91_j4 (o : Ops) (K : Nat) (C : CallC) (d : SV -> SV -> SV -> SV -> SV -> Heap -> Rs) (e a f b g : SV) (c : Heap) : Rs :=
 o.len a fun h =>
 o.lss b h fun i =>
 (o.cond i
 (o.idx 1 a b fun j =>
 o.load 1 false j c fun k =>
 o.add g k fun l =>
 (f91_j5 o K C d e a f b l c))
 ((f91_j5 o K C d e a f b g c)))
def f91_j2 (o : Ops) (K : Nat) (C : CallC) (e : SV -> SV -> SV -> SV -> SV -> Heap -> Rs) (a f d g b h : SV) (c : Heap) : Rs :=
 (o.cond h
 (o.len a fun i =>
 o.lss b i fun j =>
 (o.cond j
 (o.idx 1 a b fun k =>
 o.load 1 false k c fun l =>
 o.add g l fun m =>
 (f91_j4 o K C e a f d b m c))
 ((f91_j4 o K C e a f d b g c))))
 (o.call (C 94 [d] c) fun n p =>
 o.rest n fun q =>
 some (q, p)))
def f91_l1 (o : Ops) (K : Nat) (C : CallC) : SV -> SV -> SV -> SV -> SV -> Heap -> (SV -> SV -> SV -> SV -> SV -> Heap -> Rs) -> Rs := fun b c e d a f g =>
 o.len b fun h =>
 o.lss a h fun i =>
 (o.guard i
 ((f91_j2 o K C g b c e d a (.bool true) f))
 (o.len c fun j =>
 o.lss a j fun k =>
 (o.guard k
 ((f91_j2 o K C g b c e d a (.bool true) f))
 (o.gtr d (.int .u32 0) fun l =>
 (f91_j2 o K C g b c e d a l f))
 (none)))
 (none))
def f91 (o : Ops) (K : Nat) (C : CallC) (a b : SV) (H : Heap) : Rs :=
 (o.loop5 (f91_l1 o K C) K a b (.slice nilSl) (.int .u32 0) (.int .i64 0) H)
def f92_l3 (o : Ops) (K : Nat) (C : CallC) : SV -> SV -> SV -> Heap -> (SV -> SV -> SV -> Heap -> Rs) -> Rs := fun c d b a e =>
 o.geq b (.int .i64 0) fun f =>
 (o.cond f
 (o.idx 1 c b fun g =>
 o.load 1 false g a fun h =>
 o.idx 1 d b fun i =>
 o.load 1 false i a fun j =>
 o.lss h j fun k =>
 (o.cond k
 (some ((.int .i64 (-1)), a))
 (o.idx 1 c b fun l =>
 o.load 1 false l a fun m =>
 o.idx 1 d b fun n =>
 o.load 1 false n a fun p =>
 o.gtr m p fun q =>
 (o.cond q
 (some ((.int .i64 1), a))
 (o.sub b (.int .i64 1) fun r =>
 e c d r a)))))
 (some ((.int .i64 0), a)))
def f92 (o : Ops) (K : Nat) (C : CallC) (a b : SV) (H : Heap) : Rs :=
 o.len a fun c =>
 o.len b fun d =>
 o.neq c d fun e =>
 (o.cond e
 (o.len a fun f =>
 o.len b fun g =>
 o.lss f g fun h =>
 (o.cond h
 (some ((.int .i64 (-1)), H))
 (some ((.int .i64 1), H))))
 (o.len a fun i =>
 o.sub i (.int .i64 1) fun j =>
 (o.loop3 (f92_l3 o K C) K a b j H)))
def f93_j3 (o : Ops) (K : Nat) (C : CallC) (b : SV -> SV -> SV -> SV -> SV -> Heap -> Rs) (c d e f a : SV) (g : Heap) : Rs :=
 o.rem a (.int .u32 65536) fun h =>
 o.hbuild 1 [.int .u32 0] [(0, 1)] [h] g fun i j =>
 o.append 1 4 e i j fun k l =>
 o.quo a (.int .u32 65536) fun m =>
 o.sub (.int .u32 1) m fun n =>
 o.add f (.int .i64 1) fun p =>
 b c d k n p l
def f93_l1 (o : Ops) (K : Nat) (C : CallC) : SV -> SV -> SV -> SV -> SV -> Heap -> (SV -> SV -> SV -> SV -> SV -> Heap -> Rs) -> Rs := fun c d e h a b f =>
 o.len c fun i =>
 o.lss a i fun j =>
 (o.cond j
 (o.idx 1 c a fun k =>
 o.load 1 false k b fun l =>
 o.add l (.int .u32 65536) fun m =>
 o.sub m h fun g =>
 o.len d fun n =>
 o.lss a n fun p =>
 (o.cond p
 (o.idx 1 d a fun q =>
 o.load 1 false q b fun r =>
 o.sub g r fun s =>
 (f93_j3 o K C f c d e a s b))
 ((f93_j3 o K C f c d e a g b))))
 (o.call (C 94 [e] b) fun t u =>
 o.rest t fun v =>
 some (v, u)))
def f93 (o : Ops) (K : Nat) (C : CallC) (a b : SV) (H : Heap) : Rs :=
 (o.loop5 (f93_l1 o K C) K a b (.slice nilSl) (.int .u32 0) (.int .i64 0) H)
def f94_j2 (o : Ops) (K : Nat) (C : CallC) (d : SV -> SV -> Heap -> Rs) (b c e : SV) (a : Heap) : Rs :=
 (o.cond e
 (o.sub c (.int .i64 1) fun f =>
 d b f a)
 (o.slice010 1 b c a fun g =>
 o.rest g fun h =>
 some (h, a)))
def f94_l1 (o : Ops) (K : Nat) (C : CallC) : SV -> SV -> Heap -> (SV -> SV -> Heap -> Rs) -> Rs := fun b a c d =>
 o.gtr a (.int .i64 0) fun e =>
 (o.guard e
 (o.sub a (.int .i64 1) fun f =>
 o.idx 1 b f fun g =>
 o.load 1 false g c fun h =>
 o.eql h (.int .u32 0) fun i =>
 (f94_j2 o K C d b a i c))
 ((f94_j2 o K C d b a (.bool false) c))
 (none))
def f94 (o : Ops) (K : Nat) (C : CallC) (a : SV) (H : Heap) : Rs :=
 o.len a fun b =>
 (o.loop2 (f94_l1 o K C) K a b H)
def f95_l3 (o : Ops) (K : Nat) (C : CallC) (p : SV -> SV -> SV -> SV -> SV -> SV -> Heap -> Rs) : SV -> SV -> SV -> SV -> SV -> SV -> SV -> SV -> SV -> SV -> SV -> SV -> Heap -> (SV -> SV -> SV -> SV -> SV -> SV -> SV -> SV -> SV -> SV -> SV -> SV -> Heap -> Rs) -> Rs := fun c f a d g h i j k l m b e q =>
 o.lss b m fun r =>
 (o.cond r
 (o.idx 1 l b fun s =>
 o.load 1 false s e fun t =>
 o.conv .u64 g fun u =>
 o.conv .u64 t fun v =>
 o.mul u v fun w =>
 o.add d b fun x =>
 o.idx 1 a x fun y =>
 o.load 1 false y e fun z =>
 o.conv .u64 z fun A =>
 o.add w A fun B =>
 o.add h B fun n =>
 o.add d b fun D =>
 o.conv .u32 n fun E =>
 o.idx 1 a D fun F =>
 o.store 1 F E e fun G =>
 o.shr n (.int .u64 32) fun I =>
 o.add b (.int .i64 1) fun J =>
 q c f a d g I i j k l m J G)
 (o.lfld 0 c fun L =>
 o.lloadp 1 false c L fun M =>
 o.len M fun N =>
 o.add d N fun P =>
 o.conv .u32 h fun Q =>
 o.idx 1 a P fun S =>
 o.store 1 S Q e fun T =>
 o.add k (.int .i64 1) fun U =>
 p c f a i j U T))
def f95_l1 (o : Ops) (K : Nat) (C : CallC) : SV -> SV -> SV -> SV -> SV -> SV -> Heap -> (SV -> SV -> SV -> SV -> SV -> SV -> Heap -> Rs) -> Rs := fun b d e f g a c i =>
 o.lss a g fun j =>
 (o.cond j
 (o.idx 1 f a fun k =>
 o.load 1 false k c fun l =>
 o.lfld 0 b fun m =>
 o.lloadp 1 false b m fun h =>
 o.len h fun n =>
 (o.loop12 (f95_l3 o K C i) K b d e a l (.int .u64 0) f g a h n (.int .i64 0) c))
 (o.call (C 77 [e] c) fun p q =>
 o.bstore 0 1 d p fun r =>
 o.resc 1 true (.box r) fun s =>
 some (s, q)))
def f95 (o : Ops) (K : Nat) (C : CallC) (e f : SV) (H : Heap) : Rs :=
 o.bbox e fun a =>
 o.bbox f fun b =>
 o.lfld 0 (.box a) fun g =>
 o.lloadp 1 false (.box a) g fun h =>
 o.len h fun i =>
 o.lfld 0 (.box b) fun j =>
 o.lloadp 1 false (.box b) j fun k =>
 o.len k fun l =>
 o.add i l fun c =>
 o.make 1 4 [.int .u32 0] c c H fun m n =>
 o.lfld 0 (.box a) fun p =>
 o.lloadp 1 false (.box a) p fun d =>
 o.len d fun q =>
 (o.loop6 (f95_l1 o K C) K (.box b) (.box [.slice nilSl]) m d q (.int .i64 0) n)
def f96 (o : Ops) (K : Nat) (C : CallC) (c : SV) (H : Heap) : Rs :=
 o.bbox c fun a =>
 o.lload 0 1 true (.box a) fun d =>
 o.call (C 34 [d] H) fun e b =>
 o.gtr e (.int .i64 4096) fun f =>
 (o.cond f
 (o.build [.slice nilSl] [] [] fun g =>
 o.bstore 0 1 (.box [.slice nilSl]) g fun h =>
 o.resc 1 true (.box h) fun i =>
 some (.tuple [i, (.int .i64 3)], b))
 (o.lload 0 1 true (.box a) fun j =>
 o.bstore 0 1 (.box [.slice nilSl]) j fun k =>
 o.resc 1 true (.box k) fun l =>
 some (.tuple [l, (.int .i64 0)], b)))
def f97_j3 (o : Ops) (K : Nat) (C : CallC) (e : SV -> SV -> SV -> SV -> SV -> Heap -> Rs) (a f g b h i j : SV) (c : Heap) : Rs :=
 o.idx 1 a b fun k =>
 o.load 1 false k c fun l =>
 o.call (C 100 [l, h, g] c) fun d m =>
 o.ext 0 d fun n =>
 o.ext 1 d fun p =>
 o.idx 1 a b fun q =>
 o.store 1 q n m fun r =>
 o.add j (.int .i64 1) fun s =>
 e a f p i s r
def f97_j5 (o : Ops) (K : Nat) (C : CallC) (a : Heap) : Rs :=
 some (.tuple [], a)
def f97_l1 (o : Ops) (K : Nat) (C : CallC) : SV -> SV -> SV -> SV -> SV -> Heap -> (SV -> SV -> SV -> SV -> SV -> Heap -> Rs) -> Rs := fun f c d e a b g =>
 o.lss a e fun h =>
 (o.cond h
 (o.len c fun i =>
 o.lss a i fun j =>
 (o.cond j
 (o.idx 1 c a fun k =>
 o.load 1 false k b fun l =>
 (f97_j3 o K C g f c d a l e a b))
 (o.eql d (.int .u32 0) fun m =>
 (o.cond m
 ((f97_j5 o K C b))
 ((f97_j3 o K C g f c d a (.int .u32 0) e a b))))))
 ((f97_j5 o K C b)))
def f97 (o : Ops) (K : Nat) (C : CallC) (a b : SV) (H : Heap) : Rs :=
 o.len a fun c =>
 (o.loop5 (f97_l1 o K C) K a b (.int .u32 0) c (.int .i64 0) H)
def f98 (o : Ops) (K : Nat) (C : CallC) (a : SV) (H : Heap) : Rs :=
 o.call (C 44 [a] H) fun b c =>
 o.gtr b (.int .i64 4096) fun d =>
 o.rest d fun e =>
 some (e, c)
def f99 (o : Ops) (K : Nat) (C : CallC) (i j : SV) (H : Heap) : Rs :=
 o.bbox i fun b =>
 o.bbox j fun a =>
 o.lfld 0 (.box a) fun k =>
 o.lloadp 1 false (.box a) k fun l =>
 o.len l fun m =>
 o.eql m (.int .i64 0) fun n =>
 (o.cond n
 (o.build [.slice nilSl] [] [] fun p =>
 o.build [.slice nilSl] [] [] fun q =>
 o.bstore 0 1 (.box [.slice nilSl]) p fun r =>
 o.bstore 0 1 (.box [.slice nilSl]) q fun s =>
 o.resc 1 true (.box r) fun t =>
 o.resc 1 true (.box s) fun u =>
 some (.tuple [t, u, (.int .i64 11)], H))
 (o.lload 0 1 true (.box b) fun v =>
 o.lload 0 1 true (.box a) fun w =>
 o.call (C 84 [v, w] H) fun x c =>
 o.lss x (.int .i64 0) fun y =>
 (o.cond y
 (o.build [.slice nilSl] [] [] fun z =>
 o.lload 0 1 true (.box b) fun A =>
 o.bstore 0 1 (.box [.slice nilSl]) z fun B =>
 o.bstore 0 1 (.box [.slice nilSl]) A fun D =>
 o.resc 1 true (.box B) fun E =>
 o.resc 1 true (.box D) fun F =>
 some (.tuple [E, F, (.int .i64 0)], c))
 (o.lfld 0 (.box a) fun G =>
 o.lloadp 1 false (.box a) G fun I =>
 o.len I fun J =>
 o.eql J (.int .i64 1) fun L =>
 (o.cond L
 (o.lfld 0 (.box b) fun M =>
 o.lloadp 1 false (.box b) M fun N =>
 o.append 1 4 (.slice nilSl) N c fun d e =>
 o.lfld 0 (.box a) fun P =>
 o.lloadp 1 false (.box a) P fun Q =>
 o.idx 1 Q (.int .i64 0) fun S =>
 o.load 1 false S e fun T =>
 o.call (C 76 [d, T] e) fun U V =>
 o.call (C 77 [d] V) fun W X =>
 o.conv .u64 U fun Y =>
 o.call (C 71 [Y] X) fun Z aa =>
 o.bstore 0 1 (.box [.slice nilSl]) W fun ab =>
 o.bstore 0 1 (.box [.slice nilSl]) Z fun ac =>
 o.resc 1 true (.box ab) fun ad =>
 o.resc 1 true (.box ac) fun ae =>
 some (.tuple [ad, ae, (.int .i64 0)], aa))
 (o.lload 0 1 true (.box b) fun af =>
 o.lload 0 1 true (.box a) fun ag =>
 o.call (C 101 [af, ag] c) fun f ah =>
 o.ext 0 f fun ai =>
 o.ext 1 f fun aj =>
 o.bstore 0 1 (.box [.slice nilSl]) ai fun g =>
 o.bstore 0 1 (.box [.slice nilSl]) aj fun h =>
 o.lload 0 1 true (.box g) fun ak =>
 o.lload 0 1 true (.box h) fun al =>
 o.bstore 0 1 (.box g) ak fun am =>
 o.bstore 0 1 (.box h) al fun an =>
 o.resc 1 true (.box am) fun ap =>
 o.resc 1 true (.box an) fun aq =>
 some (.tuple [ap, aq, (.int .i64 0)], ah)))))))
def f100 (o : Ops) (K : Nat) (C : CallC) (a b d : SV) (H : Heap) : Rs :=
 o.sub a b fun e =>
 o.sub e d fun c =>
 o.u_xor a fun f =>
 o.and f b fun g =>
 o.xor a b fun h =>
 o.u_xor h fun i =>
 o.and i c fun j =>
 o.or g j fun k =>
 o.shr k (.int .u64 31) fun l =>
 o.rest c fun m =>
 o.rest l fun n =>
 some (.tuple [m, n], H)
def f101_j7 (o : Ops) (K : Nat) (C : CallC) (a : SV -> SV -> SV -> SV -> SV -> SV -> SV -> SV -> Heap -> Rs) (b c d e f g h i : SV) (j : Heap) : Rs :=
 o.sub i (.int .i64 1) fun k =>
 a b c d e f g h k j
def f101_j11 (o : Ops) (K : Nat) (C : CallC) (c : SV -> SV -> SV -> SV -> SV -> SV -> SV -> SV -> SV -> SV -> SV -> SV -> Heap -> Rs) (d e f g h i j k a b l m n : SV) (p : Heap) : Rs :=
 o.conv .u32 b fun q =>
 o.idx 1 a l fun r =>
 o.store 1 r q p fun s =>
 o.shr b (.int .u64 32) fun t =>
 o.add n (.int .i64 1) fun u =>
 c d e f g h i j k a t m u s
def f101_l9 (o : Ops) (K : Nat) (C : CallC) (p : SV -> SV -> SV -> SV -> SV -> SV -> SV -> SV -> Heap -> Rs) : SV -> SV -> SV -> SV -> SV -> SV -> SV -> SV -> SV -> SV -> SV -> SV -> Heap -> (SV -> SV -> SV -> SV -> SV -> SV -> SV -> SV -> SV -> SV -> SV -> SV -> Heap -> Rs) -> Rs := fun e f c g d h i j k q l a b m =>
 o.lss a l fun r =>
 (o.cond r
 (o.idx 1 k a fun s =>
 o.load 1 false s b fun t =>
 o.conv .u64 t fun u =>
 o.add q u fun n =>
 o.lss a c fun v =>
 (o.cond v
 (o.idx 1 d a fun w =>
 o.load 1 false w b fun x =>
 o.conv .u64 x fun y =>
 o.add n y fun z =>
 (f101_j11 o K C m e f c g d h i j k z a l a b))
 ((f101_j11 o K C m e f c g d h i j k n a l a b))))
 ((f101_j7 o K C p e f c g d h i j b)))
def f101_j6 (o : Ops) (K : Nat) (C : CallC) (h : SV -> SV -> SV -> SV -> SV -> SV -> SV -> SV -> Heap -> Rs) (i j b k d e c a f : SV) (l : Heap) : Rs :=
 o.add a b fun n =>
 o.add n (.int .i64 1) fun p =>
 o.add a b fun q =>
 o.add q (.int .i64 1) fun r =>
 o.slice111 1 e a p r l fun g =>
 o.conv .u32 f fun s =>
 o.call (C 104 [g, d, s] l) fun t m =>
 o.u_not t fun u =>
 (o.cond u
 (o.conv .u32 f fun v =>
 o.idx 1 c a fun w =>
 o.store 1 w v m fun x =>
 (f101_j7 o K C h i j b k d e c a x))
 (o.conv .u32 f fun y =>
 o.sub y (.int .u32 1) fun z =>
 o.idx 1 c a fun A =>
 o.store 1 A z m fun B =>
 o.len g fun D =>
 (o.loop12 (f101_l9 o K C h) K i j b k d e c a g (.int .u64 0) D (.int .i64 0) B)))
def f101_j4 (o : Ops) (K : Nat) (C : CallC) (j : SV -> SV -> SV -> SV -> SV -> SV -> SV -> SV -> Heap -> Rs) (n : SV -> SV -> SV -> SV -> SV -> SV -> SV -> SV -> SV -> SV -> Heap -> Rs) (d e a f b g h i k p q : SV) (c : Heap) : Rs :=
 (o.cond q
 (o.sub k (.int .u64 1) fun l =>
 o.sub a (.int .i64 1) fun r =>
 o.idx 1 b r fun s =>
 o.load 1 false s c fun t =>
 o.conv .u64 t fun u =>
 o.add p u fun m =>
 o.shr m (.int .u64 32) fun v =>
 o.neq v (.int .u64 0) fun w =>
 (o.cond w
 ((f101_j6 o K C j d e a f b g h i l c))
 (n d e a f b g h i l m c)))
 ((f101_j6 o K C j d e a f b g h i k c)))
def f101_l3 (o : Ops) (K : Nat) (C : CallC) (h : SV -> SV -> SV -> SV -> SV -> SV -> SV -> SV -> Heap -> Rs) : SV -> SV -> SV -> SV -> SV -> SV -> SV -> SV -> SV -> SV -> Heap -> (SV -> SV -> SV -> SV -> SV -> SV -> SV -> SV -> SV -> SV -> Heap -> Rs) -> Rs := fun i j a k d e l f b g c m =>
 o.shr b (.int .u64 32) fun n =>
 o.neq n (.int .u64 0) fun p =>
 (o.guard p
 ((f101_j4 o K C h m i j a k d e l f b g (.bool true) c))
 (o.sub a (.int .i64 2) fun q =>
 o.idx 1 d q fun r =>
 o.load 1 false r c fun s =>
 o.conv .u64 s fun t =>
 o.mul b t fun u =>
 o.shl g (.int .u64 32) fun v =>
 o.add f a fun w =>
 o.sub w (.int .i64 2) fun x =>
 o.idx 1 e x fun y =>
 o.load 1 false y c fun z =>
 o.conv .u64 z fun A =>
 o.or v A fun B =>
 o.gtr u B fun D =>
 (f101_j4 o K C h m i j a k d e l f b g D c))
 (none))
def f101_l1 (o : Ops) (K : Nat) (C : CallC) : SV -> SV -> SV -> SV -> SV -> SV -> SV -> SV -> Heap -> (SV -> SV -> SV -> SV -> SV -> SV -> SV -> SV -> Heap -> Rs) -> Rs := fun f g b h e c i d a k =>
 o.geq d (.int .i64 0) fun l =>
 (o.cond l
 (o.add d b fun m =>
 o.idx 1 c m fun n =>
 o.load 1 false n a fun p =>
 o.conv .u64 p fun q =>
 o.shl q (.int .u64 32) fun r =>
 o.add d b fun s =>
 o.sub s (.int .i64 1) fun t =>
 o.idx 1 c t fun u =>
 o.load 1 false u a fun v =>
 o.conv .u64 v fun w =>
 o.or r w fun j =>
 o.sub b (.int .i64 1) fun x =>
 o.idx 1 e x fun y =>
 o.load 1 false y a fun z =>
 o.conv .u64 z fun A =>
 o.quo j A fun B =>
 o.sub b (.int .i64 1) fun D =>
 o.idx 1 e D fun E =>
 o.load 1 false E a fun F =>
 o.conv .u64 F fun G =>
 o.rem j G fun I =>
 (o.loop10 (f101_l3 o K C k) K f g b h e c i d B I a))
 (o.call (C 77 [i] a) fun J L =>
 o.call (C 105 [c, h] L) fun M N =>
 o.bstore 0 1 f J fun P =>
 o.bstore 0 1 g M fun Q =>
 o.resc 1 true (.box P) fun S =>
 o.resc 1 true (.box Q) fun T =>
 some (.tuple [S, T], N)))
def f101 (o : Ops) (K : Nat) (C : CallC) (g h : SV) (H : Heap) : Rs :=
 o.bbox g fun b =>
 o.bbox h fun a =>
 o.lfld 0 (.box a) fun i =>
 o.lloadp 1 false (.box a) i fun j =>
 o.len j fun c =>
 o.lfld 0 (.box a) fun k =>
 o.lloadp 1 false (.box a) k fun l =>
 o.lfld 0 (.box a) fun m =>
 o.lloadp 1 false (.box a) m fun n =>
 o.len n fun p =>
 o.sub p (.int .i64 1) fun q =>
 o.idx 1 l q fun r =>
 o.load 1 false r H fun s =>
 o.call (C 102 [s] H) fun d t =>
 o.lfld 0 (.box a) fun u =>
 o.lloadp 1 false (.box a) u fun v =>
 o.call (C 103 [v, d, c] t) fun w x =>
 o.lfld 0 (.box b) fun y =>
 o.lloadp 1 false (.box b) y fun z =>
 o.lfld 0 (.box b) fun A =>
 o.lloadp 1 false (.box b) A fun B =>
 o.len B fun D =>
 o.add D (.int .i64 1) fun E =>
 o.call (C 103 [z, d, E] x) fun f F =>
 o.len f fun G =>
 o.sub G c fun e =>
 o.make 1 4 [.int .u32 0] e e F fun I J =>
 o.sub e (.int .i64 1) fun L =>
 (o.loop8 (f101_l1 o K C) K (.box [.slice nilSl]) (.box [.slice nilSl]) c d w f I L J)
def f102 (o : Ops) (K : Nat) (C : CallC) (a : SV) (H : Heap) : Rs :=
 o.call (C 69 [a] H) fun b c =>
 o.sub (.int .i64 32) b fun d =>
 o.rest d fun e =>
 some (e, c)
def f103_j3 (o : Ops) (K : Nat) (C : CallC) (c : SV -> SV -> SV -> SV -> SV -> SV -> Heap -> Rs) (d e a b f g h : SV) (i : Heap) : Rs :=
 o.conv .u32 b fun j =>
 o.idx 1 a f fun k =>
 o.store 1 k j i fun l =>
 o.shr b (.int .u64 32) fun m =>
 o.add h (.int .i64 1) fun n =>
 c d e a m g n l
def f103_l1 (o : Ops) (K : Nat) (C : CallC) : SV -> SV -> SV -> SV -> SV -> SV -> Heap -> (SV -> SV -> SV -> SV -> SV -> SV -> Heap -> Rs) -> Rs := fun b d e g f a c h =>
 o.lss a f fun i =>
 (o.cond i
 (o.len b fun j =>
 o.lss a j fun k =>
 (o.cond k
 (o.idx 1 b a fun l =>
 o.load 1 false l c fun m =>
 o.conv .u64 m fun n =>
 o.shl n d fun p =>
 o.or g p fun q =>
 (f103_j3 o K C h b d e q a f a c))
 ((f103_j3 o K C h b d e g a f a c))))
 (o.rest e fun r =>
 some (r, c)))
def f103 (o : Ops) (K : Nat) (C : CallC) (c d a : SV) (H : Heap) : Rs :=
 o.make 1 4 [.int .u32 0] a a H fun b e =>
 o.len b fun f =>
 (o.loop6 (f103_l1 o K C) K c d b (.int .u64 0) f (.int .i64 0) e)
def f104_j3 (o : Ops) (K : Nat) (C : CallC) (f : SV -> SV -> SV -> SV -> SV -> SV -> SV -> Heap -> Rs) (a g h b i c j k : SV) (d : Heap) : Rs :=
 o.idx 1 a c fun l =>
 o.load 1 false l d fun m =>
 o.conv .u32 b fun n =>
 o.call (C 100 [m, n, i] d) fun e p =>
 o.ext 0 e fun q =>
 o.ext 1 e fun r =>
 o.idx 1 a c fun s =>
 o.store 1 s q p fun t =>
 o.shr b (.int .u64 32) fun u =>
 o.add k (.int .i64 1) fun v =>
 f a g h u r j v t
def f104_l1 (o : Ops) (K : Nat) (C : CallC) : SV -> SV -> SV -> SV -> SV -> SV -> SV -> Heap -> (SV -> SV -> SV -> SV -> SV -> SV -> SV -> Heap -> Rs) -> Rs := fun g b d h e f a c i =>
 o.lss a f fun j =>
 (o.cond j
 (o.len b fun k =>
 o.lss a k fun l =>
 (o.cond l
 (o.idx 1 b a fun m =>
 o.load 1 false m c fun n =>
 o.conv .u64 n fun p =>
 o.conv .u64 d fun q =>
 o.mul p q fun r =>
 o.add h r fun s =>
 (f104_j3 o K C i g b d s e a f a c))
 ((f104_j3 o K C i g b d h e a f a c))))
 (o.neq e (.int .u32 0) fun t =>
 o.rest t fun u =>
 some (u, c)))
def f104 (o : Ops) (K : Nat) (C : CallC) (a b c : SV) (H : Heap) : Rs :=
 o.len a fun d =>
 (o.loop7 (f104_l1 o K C) K a b c (.int .u64 0) (.int .u32 0) d (.int .i64 0) H)
def f105_j3 (o : Ops) (K : Nat) (C : CallC) (c : SV -> SV -> SV -> SV -> SV -> SV -> Heap -> Rs) (d a e b f g h i : SV) (j : Heap) : Rs :=
 o.shr g a fun k =>
 o.conv .u32 k fun l =>
 o.idx 1 b f fun m =>
 o.store 1 m l j fun n =>
 o.add i (.int .i64 1) fun p =>
 c d a e b h p n
def f105_l1 (o : Ops) (K : Nat) (C : CallC) : SV -> SV -> SV -> SV -> SV -> SV -> Heap -> (SV -> SV -> SV -> SV -> SV -> SV -> Heap -> Rs) -> Rs := fun b g d e f a c h =>
 o.lss a f fun j =>
 (o.cond j
 (o.idx 1 b a fun k =>
 o.load 1 false k c fun l =>
 o.conv .u64 l fun i =>
 o.add a (.int .i64 1) fun m =>
 o.len b fun n =>
 o.lss m n fun p =>
 (o.cond p
 (o.add a (.int .i64 1) fun q =>
 o.idx 1 b q fun r =>
 o.load 1 false r c fun s =>
 o.conv .u64 s fun t =>
 o.shl t (.int .u64 32) fun u =>
 o.or i u fun v =>
 (f105_j3 o K C h b g d e a v f a c))
 ((f105_j3 o K C h b g d e a i f a c))))
 (o.call (C 77 [e] c) fun w x =>
 o.bstore 0 1 d w fun y =>
 o.resc 1 true (.box y) fun z =>
 some (z, x)))
def f105 (o : Ops) (K : Nat) (C : CallC) (a c : SV) (H : Heap) : Rs :=
 o.len a fun b =>
 o.make 1 4 [.int .u32 0] b b H fun d e =>
 o.len a fun f =>
 (o.loop6 (f105_l1 o K C) K a c (.box [.slice nilSl]) d f (.int .i64 0) e)
end Go.Sh.Of
