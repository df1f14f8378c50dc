/- Plain forms, printed by a program. -/
import Derived.Test.YtkgbokkeemjkkaaSh26
set_option linter.unusedVariables false
set_option maxRecDepth 100000
namespace Go.Sh.Of
open Go
/-- parquet/parquetlaw07.GramSums -/
def f8_j7 (o : Ops) (K : Nat) (C : CallC) (q7_6 : SV) (H7_0 : Heap) : Rs :=
  o.rest q7_6 fun r43 =>
  some (r43, H7_0)
def f8_j5 (o : Ops) (K : Nat) (C : CallC) (q5_0 q5_1 q5_7 q5_8 q5_9 q5_11 q5_86 : SV) (H5_0 : Heap) : Rs :=
  (o.cond q5_86
  (some ((.bool false), H5_0))
  (o.call (C 41 [q5_9] H5_0) fun x35 H36 =>
  o.call (C 41 [q5_11] H36) fun x37 H38 =>
  o.call (C 26 [q5_0, q5_7] H38) fun x39 H40 =>
  (o.guard x39
  (o.call (C 26 [q5_1, q5_8] H40) fun x41 H42 =>
  (f8_j7 o K C x41 H42))
  ((f8_j7 o K C (.bool false) H40))
  (none))))
def f8_j4 (o : Ops) (K : Nat) (C : CallC) (q4_0 q4_1 q4_7 q4_8 q4_9 q4_10 q4_11 q4_12 q4_15 q4_16 q4_17 q4_18 : SV) (H4_0 : Heap) : Rs :=
  o.neq q4_10 q4_18 fun x33 =>
  (o.guard x33
  ((f8_j5 o K C q4_0 q4_1 q4_7 q4_8 q4_9 q4_11 (.bool true) H4_0))
  (o.neq q4_12 q4_17 fun x44 =>
  (o.guard x44
  ((f8_j5 o K C q4_0 q4_1 q4_7 q4_8 q4_9 q4_11 (.bool true) H4_0))
  (o.call (C 27 [q4_9, q4_15] H4_0) fun x45 H46 =>
  o.u_not x45 fun x47 =>
  (o.guard x47
  ((f8_j5 o K C q4_0 q4_1 q4_7 q4_8 q4_9 q4_11 (.bool true) H46))
  (o.call (C 27 [q4_11, q4_16] H46) fun x48 H49 =>
  o.u_not x48 fun x50 =>
  (f8_j5 o K C q4_0 q4_1 q4_7 q4_8 q4_9 q4_11 x50 H49))
  (none)))
  (none)))
  (none))
def f8_j3 (o : Ops) (K : Nat) (C : CallC) (q3_0 q3_1 q3_7 q3_8 q3_9 q3_10 q3_11 q3_12 q3_15 q3_16 q3_17 q3_18 : SV) (H3_0 : Heap) : Rs :=
  (f8_j4 o K C q3_0 q3_1 q3_7 q3_8 q3_9 q3_10 q3_11 q3_12 q3_15 q3_16 q3_17 q3_18 H3_0)
def f8_j1 (o : Ops) (K : Nat) (C : CallC) (q1_0 q1_1 q1_2 q1_26 : SV) (H1_0 : Heap) : Rs :=
  (o.cond q1_26
  (o.call (C 9 [] H1_0) fun x4 H5 =>
  o.rest x4 fun r6 =>
  some (r6, H5))
  (o.call (C 25 [q1_0] H1_0) fun x7 H8 =>
  o.call (C 25 [q1_1] H8) fun x9 H10 =>
  o.call (C 37 [x7, x9] H10) fun x11 H12 =>
  o.ext 0 x11 fun x13 =>
  o.ext 1 x11 fun x14 =>
  o.call (C 38 [x7, q1_2] H12) fun x15 H16 =>
  o.ext 0 x15 fun x17 =>
  o.ext 1 x15 fun x18 =>
  o.call (C 28 [q1_0] H16) fun x19 H20 =>
  o.call (C 28 [q1_1] H20) fun x21 H22 =>
  o.eql x19 (.int .i64 0) fun x23 =>
  (o.cond x23
  (o.call (C 39 [q1_0, q1_2] H22) fun x24 H25 =>
  o.ext 0 x24 fun x26 =>
  o.ext 1 x24 fun x27 =>
  o.eql x21 (.int .i64 0) fun x28 =>
  (o.cond x28
  (o.call (C 40 [q1_0, q1_1] H25) fun x29 H30 =>
  o.ext 0 x29 fun x31 =>
  o.ext 1 x29 fun x32 =>
  (f8_j3 o K C q1_0 q1_1 x7 x9 x13 x14 x17 x18 x31 x26 x27 x32 H30))
  ((f8_j3 o K C q1_0 q1_1 x7 x9 x13 x14 x17 x18 (.slice nilSl) x26 x27 x21 H25))))
  ((f8_j4 o K C q1_0 q1_1 x7 x9 x13 x14 x17 x18 (.slice nilSl) (.slice nilSl) x19 x19 H22)))))
def f8 (o : Ops) (K : Nat) (C : CallC) (a0 a1 a2 : SV) (H : Heap) : Rs :=
  o.call (C 9 [] H) fun x1 H2 =>
  o.u_not x1 fun x3 =>
  (o.guard x3
  ((f8_j1 o K C a0 a1 a2 (.bool true) H2))
  (o.hbuild 1 [.slice nilSl, .slice nilSl] [(0, 1), (1, 1)] [a0, a1] H2 fun x51 H52 =>
  o.call (C 10 [x51] H52) fun x53 H54 =>
  (f8_j1 o K C a0 a1 a2 x53 H54))
  (none))
/-- parquet/parquetlaw07.works -/
def f9_j1 (o : Ops) (K : Nat) (C : CallC) (q1_0 : SV) (H1_0 : Heap) : Rs :=
  o.rest q1_0 fun r77 =>
  some (r77, H1_0)
def f9 (o : Ops) (K : Nat) (C : CallC) (H : Heap) : Rs :=
  o.hbuild 1 [.int .i64 0, .int .i64 0] [(0, 1), (1, 1)] [(.int .i64 2), (.int .i64 1)] H fun x1 H2 =>
  o.hbuild 1 [.int .i64 0, .int .i64 0] [(0, 1), (1, 1)] [(.int .i64 1), (.int .i64 2)] H2 fun x3 H4 =>
  o.hbuild 1 [.slice nilSl, .slice nilSl] [(0, 1), (1, 1)] [x1, x3] H4 fun x5 H6 =>
  o.call (C 22 [x5] H6) fun x7 H8 =>
  o.ext 0 x7 fun x9 =>
  o.ext 1 x7 fun x10 =>
  o.bstore 0 1 (.box [.slice nilSl]) x9 fun c11 =>
  o.hbuild 1 [.int .i64 0, .int .i64 0] [(0, 1), (1, 1)] [(.int .i64 1), (.int .i64 (-1))] H8 fun x12 H13 =>
  o.call (C 15 [x5, x12] H13) fun x14 H15 =>
  o.ext 0 x14 fun x16 =>
  o.ext 1 x14 fun x17 =>
  o.hbuild 1 [.int .i64 0, .int .i64 0] [(0, 1), (1, 1)] [(.int .i64 1), (.int .i64 1)] H15 fun x18 H19 =>
  o.hbuild 1 [.int .i64 0, .int .i64 0] [(0, 1), (1, 1)] [(.int .i64 0), (.int .i64 1)] H19 fun x20 H21 =>
  o.hbuild 1 [.slice nilSl, .slice nilSl] [(0, 1), (1, 1)] [x18, x20] H21 fun x22 H23 =>
  o.call (C 12 [x22] H23) fun x24 H25 =>
  o.ext 0 x24 fun x26 =>
  o.ext 1 x24 fun x27 =>
  o.bstore 0 1 (.box [.slice nilSl]) x26 fun c28 =>
  o.lload 0 1 true (.box c28) fun x29 =>
  o.call (C 21 [x5, x29] H25) fun x30 H31 =>
  o.ext 0 x30 fun x32 =>
  o.ext 1 x30 fun x33 =>
  o.eql x10 (.int .i64 0) fun x34 =>
  (o.guard x34
  (o.eql x17 (.int .i64 0) fun x35 =>
  (o.guard x35
  (o.eql x33 (.int .i64 0) fun x36 =>
  (o.guard x36
  (o.lload 0 1 true (.box c11) fun x37 =>
  o.call (C 33 [x37] H31) fun x38 H39 =>
  o.eql x38 (.str [51]) fun x40 =>
  (o.guard x40
  (o.eql x16 (.int .i64 2) fun x41 =>
  (o.guard x41
  (o.len x32 fun x42 =>
  o.eql x42 (.int .i64 2) fun x43 =>
  (o.guard x43
  (o.idx 1 x32 (.int .i64 0) fun x44 =>
  o.load 1 false x44 H39 fun x45 =>
  o.idx 1 x45 (.int .i64 0) fun x46 =>
  o.load 1 false x46 H39 fun x47 =>
  o.eql x47 (.int .i64 6) fun x48 =>
  (o.guard x48
  (o.idx 1 x32 (.int .i64 0) fun x49 =>
  o.load 1 false x49 H39 fun x50 =>
  o.idx 1 x50 (.int .i64 1) fun x51 =>
  o.load 1 false x51 H39 fun x52 =>
  o.eql x52 (.int .i64 3) fun x53 =>
  (o.guard x53
  (o.idx 1 x32 (.int .i64 1) fun x54 =>
  o.load 1 false x54 H39 fun x55 =>
  o.idx 1 x55 (.int .i64 1) fun x56 =>
  o.load 1 false x56 H39 fun x57 =>
  o.eql x57 (.int .i64 2) fun x58 =>
  (o.guard x58
  (o.hbuild 1 [.int .i64 0, .int .i64 0] [(0, 1), (1, 1)] [(.int .i64 1), (.int .i64 2)] H39 fun x59 H60 =>
  o.hbuild 1 [.int .i64 0, .int .i64 0] [(0, 1), (1, 1)] [(.int .i64 2), (.int .i64 1)] H60 fun x61 H62 =>
  o.hbuild 1 [.slice nilSl, .slice nilSl] [(0, 1), (1, 1)] [x59, x61] H62 fun x63 H64 =>
  o.call (C 11 [x63] H64) fun x65 H66 =>
  o.eql x65 (.int .i64 6) fun x67 =>
  (o.guard x67
  (o.hbuild 1 [.int .i64 0, .int .i64 0] [(0, 1), (1, 1)] [(.int .i64 1), (.int .i64 0)] H66 fun x68 H69 =>
  o.hbuild 1 [.int .i64 0, .int .i64 0] [(0, 1), (1, 1)] [(.int .i64 1), (.int .i64 1)] H69 fun x70 H71 =>
  o.hbuild 1 [.slice nilSl, .slice nilSl] [(0, 1), (1, 1)] [x68, x70] H71 fun x72 H73 =>
  o.call (C 11 [x72] H73) fun x74 H75 =>
  o.eql x74 (.int .i64 6) fun x76 =>
  (f9_j1 o K C x76 H75))
  ((f9_j1 o K C (.bool false) H66))
  (none)))
  ((f9_j1 o K C (.bool false) H39))
  (none)))
  ((f9_j1 o K C (.bool false) H39))
  (none)))
  ((f9_j1 o K C (.bool false) H39))
  (none)))
  ((f9_j1 o K C (.bool false) H39))
  (none)))
  ((f9_j1 o K C (.bool false) H39))
  (none)))
  ((f9_j1 o K C (.bool false) H39))
  (none)))
  ((f9_j1 o K C (.bool false) H31))
  (none)))
  ((f9_j1 o K C (.bool false) H31))
  (none)))
  ((f9_j1 o K C (.bool false) H31))
  (none))
/-- parquet/parquetlaw07.beyond -/
def f10_l4 (o : Ops) (K : Nat) (C : CallC) (k6 : SV → SV → SV → Heap → Rs) : SV → SV → SV → SV → SV → SV → Heap → (SV → SV → SV → SV → SV → SV → Heap → Rs) → Rs := fun y16 y17 y18 y19 y20 y21 H22 k23 =>
  o.lss y21 y20 fun x24 =>
  (o.cond x24
  (o.idx 1 y16 y17 fun x25 =>
  o.load 1 false x25 H22 fun x26 =>
  o.idx 1 x26 y21 fun x27 =>
  o.load 1 false x27 H22 fun x28 =>
  o.len x28 fun x29 =>
  o.gtr x29 (.int .i64 100) fun x30 =>
  (o.cond x30
  (some ((.bool true), H22))
  (o.add y21 (.int .i64 1) fun x32 =>
  k23 y16 y17 y18 y19 y20 x32 H22)))
  (o.add y19 (.int .i64 1) fun x33 =>
  k6 y16 y18 x33 H22))
def f10_l1 (o : Ops) (K : Nat) (C : CallC) : SV → SV → SV → Heap → (SV → SV → SV → Heap → Rs) → Rs := fun y2 y3 y4 H5 k6 =>
  o.lss y4 y3 fun x7 =>
  (o.cond x7
  (o.idx 1 y2 y4 fun x8 =>
  o.load 1 false x8 H5 fun x9 =>
  o.len x9 fun x10 =>
  o.gtr x10 (.int .i64 100) fun x11 =>
  (o.cond x11
  (some ((.bool true), H5))
  (o.idx 1 y2 y4 fun x13 =>
  o.load 1 false x13 H5 fun x14 =>
  o.len x14 fun x15 =>
  (o.loop6 (f10_l4 o K C k6) K y2 y4 y3 y4 x15 (.int .i64 0) H5))))
  (some ((.bool false), H5)))
def f10 (o : Ops) (K : Nat) (C : CallC) (a0 : SV) (H : Heap) : Rs :=
  o.len a0 fun x1 =>
  (o.loop3 (f10_l1 o K C) K a0 x1 (.int .i64 0) H)
/-- parquet/gram.Check -/
def f11_j9 (o : Ops) (K : Nat) (C : CallC) (q9_37 : SV) (H9_0 : Heap) : Rs :=
  (o.cond q9_37
  (some ((.int .i64 6), H9_0))
  (some ((.int .i64 0), H9_0)))
def f11_l3 (o : Ops) (K : Nat) (C : CallC) : SV → SV → SV → SV → Heap → (SV → SV → SV → SV → Heap → Rs) → Rs := fun y9 y10 y11 y12 H13 k14 =>
  o.lss y12 y11 fun x15 =>
  (o.cond x15
  (o.load 1 false y9 H13 fun x16 =>
  o.idx 1 x16 y12 fun x17 =>
  o.load 1 false x17 H13 fun x18 =>
  o.len x18 fun x19 =>
  o.neq x19 y10 fun x20 =>
  (o.cond x20
  (some ((.int .i64 5), H13))
  (o.add y12 (.int .i64 1) fun x22 =>
  k14 y9 y10 y11 x22 H13)))
  (o.load 1 false y9 H13 fun x23 =>
  o.call (C 42 [x23, (.fn 43 [] [])] H13) fun x24 H25 =>
  o.u_not x24 fun x26 =>
  (o.cond x26
  (some ((.int .i64 3), H25))
  (o.load 1 false y9 H25 fun x28 =>
  o.mkfn 45 0 [y9] fun x29 =>
  o.call (C 42 [x28, x29] H25) fun x30 H31 =>
  o.u_not x30 fun x32 =>
  (o.guard x32
  ((f11_j9 o K C (.bool true) H31))
  (o.load 1 false y9 H31 fun x35 =>
  o.call (C 46 [x35] H31) fun x36 H37 =>
  o.u_not x36 fun x38 =>
  (f11_j9 o K C x38 H37))
  (none))))))
def f11_j1 (o : Ops) (K : Nat) (C : CallC) (q1_1 q1_3 q1_12 : SV) (H1_0 : Heap) : Rs :=
  (o.cond q1_12
  (some ((.int .i64 5), H1_0))
  (o.load 1 false q1_1 H1_0 fun x7 =>
  o.len x7 fun x8 =>
  (o.loop4 (f11_l3 o K C) K q1_1 q1_3 x8 (.int .i64 0) H1_0)))
def f11 (o : Ops) (K : Nat) (C : CallC) (a0 : SV) (H : Heap) : Rs :=
  o.box a0 H fun x1 H2 =>
  o.load 1 false x1 H2 fun x3 =>
  o.len x3 fun x4 =>
  o.lss x4 (.int .i64 1) fun x5 =>
  (o.guard x5
  ((f11_j1 o K C x1 x4 (.bool true) H2))
  (o.gtr x4 (.int .i64 8) fun x39 =>
  (f11_j1 o K C x1 x4 x39 H2))
  (none))
/-- parquet/mat.Of -/
def f12 (o : Ops) (K : Nat) (C : CallC) (a0 : SV) (H : Heap) : Rs :=
  o.box a0 H fun x1 H2 =>
  o.load 1 false x1 H2 fun x3 =>
  o.call (C 48 [x3] H2) fun x4 H5 =>
  o.call (C 47 [x4] H5) fun x6 H7 =>
  o.u_not x6 fun x8 =>
  (o.cond x8
  (o.build [.slice nilSl] [] [] fun x9 =>
  o.bstore 0 1 (.box [.slice nilSl]) x9 fun c10 =>
  o.resc 1 true (.box c10) fun r11 =>
  some (.tuple [r11, (.int .i64 5)], H7))
  (o.load 1 false x1 H7 fun x13 =>
  o.len x13 fun x14 =>
  o.eql x14 (.int .i64 0) fun x15 =>
  (o.cond x15
  (o.build [.slice nilSl] [] [] fun x16 =>
  o.bstore 0 1 (.box [.slice nilSl]) x16 fun c17 =>
  o.resc 1 true (.box c17) fun r18 =>
  some (.tuple [r18, (.int .i64 0)], H7))
  (o.load 1 false x1 H7 fun x20 =>
  o.len x20 fun x21 =>
  o.load 1 false x1 H7 fun x22 =>
  o.idx 1 x22 (.int .i64 0) fun x23 =>
  o.load 1 false x23 H7 fun x24 =>
  o.len x24 fun x25 =>
  o.mkfn 50 0 [x1] fun x26 =>
  o.call (C 49 [x21, x25, x26] H7) fun x27 H28 =>
  o.bstore 0 1 (.box [.slice nilSl]) x27 fun c29 =>
  o.resc 1 true (.box c29) fun r30 =>
  some (.tuple [r30, (.int .i64 0)], H28)))))
/-- parquet/mat.Det -/
def f13 (o : Ops) (K : Nat) (C : CallC) (a0 : SV) (H : Heap) : Rs :=
  o.bbox a0 fun c1 =>
  o.lload 0 1 true (.box c1) fun x2 =>
  o.call (C 51 [x2] H) fun x3 H4 =>
  o.neq x3 (.int .i64 0) fun x5 =>
  (o.cond x5
  (o.build [.bool false, .slice nilSl] [] [] fun x6 =>
  o.bstore 0 2 (.box [.bool false, .slice nilSl]) x6 fun c7 =>
  o.resc 2 true (.box c7) fun r8 =>
  o.rest x3 fun r9 =>
  some (.tuple [r8, r9], H4))
  (o.lload 0 1 true (.box c1) fun x10 =>
  o.call (C 52 [x10] H4) fun x11 H12 =>
  o.ext 0 x11 fun x13 =>
  o.ext 1 x11 fun x14 =>
  o.bstore 0 2 (.box [.bool false, .slice nilSl]) x14 fun c15 =>
  o.lload 0 2 true (.box c15) fun x16 =>
  o.bstore 0 2 (.box [.bool false, .slice nilSl]) x16 fun c17 =>
  o.resc 2 true (.box c17) fun r18 =>
  some (.tuple [r18, (.int .i64 0)], H12)))
/-- (parquet/zint.Int).Sign -/
def f14 (o : Ops) (K : Nat) (C : CallC) (a0 : SV) (H : Heap) : Rs :=
  o.bbox a0 fun c1 =>
  o.lfld 1 (.box c1) fun x2 =>
  o.lloadp 1 true (.box c1) x2 fun x3 =>
  o.call (C 32 [x3] H) fun x4 H5 =>
  o.eql x4 (.int .i64 0) fun x6 =>
  (o.cond x6
  (some ((.int .i64 0), H5))
  (o.lfld 0 (.box c1) fun x8 =>
  o.lloadp 1 false (.box c1) x8 fun x9 =>
  (o.cond x9
  (some ((.int .i64 (-1)), H5))
  (some ((.int .i64 1), H5)))))
/-- parquet/gram.Norm -/
def f15 (o : Ops) (K : Nat) (C : CallC) (a0 a1 : SV) (H : Heap) : Rs :=
  o.call (C 16 [a0, a1, a1] H) fun x1 H2 =>
  o.ext 0 x1 fun x3 =>
  o.ext 1 x1 fun x4 =>
  o.rest x3 fun r5 =>
  o.rest x4 fun r6 =>
  some (.tuple [r5, r6], H2)
/-- parquet/gram.Dot -/
def f16 (o : Ops) (K : Nat) (C : CallC) (a0 a1 a2 : SV) (H : Heap) : Rs :=
  o.call (C 11 [a0] H) fun x1 H2 =>
  o.neq x1 (.int .i64 0) fun x3 =>
  (o.cond x3
  (o.rest x1 fun r5 =>
  some (.tuple [(.int .i64 0), r5], H2))
  (o.call (C 53 [a0, a1, a2] H2) fun x6 H7 =>
  o.ext 0 x6 fun x8 =>
  o.ext 1 x6 fun x9 =>
  o.rest x8 fun r10 =>
  o.rest x9 fun r11 =>
  some (.tuple [r10, r11], H7)))
/-- parquet/nat.Mul -/
def f17 (o : Ops) (K : Nat) (C : CallC) (a0 a1 : SV) (H : Heap) : Rs :=
  o.bbox a0 fun c1 =>
  o.bbox a1 fun c2 =>
  o.lload 0 1 true (.box c1) fun x3 =>
  o.call (C 32 [x3] H) fun x4 H5 =>
  o.lload 0 1 true (.box c2) fun x6 =>
  o.call (C 32 [x6] H5) fun x7 H8 =>
  o.add x4 x7 fun x9 =>
  o.gtr x9 (.int .i64 4097) fun x10 =>
  (o.cond x10
  (o.build [.slice nilSl] [] [] fun x11 =>
  o.bstore 0 1 (.box [.slice nilSl]) x11 fun c12 =>
  o.resc 1 true (.box c12) fun r13 =>
  some (.tuple [r13, (.int .i64 3)], H8))
  (o.lload 0 1 true (.box c1) fun x15 =>
  o.lload 0 1 true (.box c2) fun x16 =>
  o.call (C 54 [x15, x16] H8) fun x17 H18 =>
  o.call (C 55 [x17] H18) fun x19 H20 =>
  o.ext 0 x19 fun x21 =>
  o.ext 1 x19 fun x22 =>
  o.bstore 0 1 (.box [.slice nilSl]) x21 fun c23 =>
  o.resc 1 true (.box c23) fun r24 =>
  o.rest x22 fun r25 =>
  some (.tuple [r24, r25], H20)))
/-- parquet/zint.Of -/
def f18 (o : Ops) (K : Nat) (C : CallC) (a0 : SV) (H : Heap) : Rs :=
  o.lss a0 (.int .i64 0) fun x1 =>
  (o.cond x1
  (o.conv .u64 a0 fun x2 =>
  o.u_neg x2 fun x3 =>
  o.call (C 56 [x3] H) fun x4 H5 =>
  o.build [.bool false, .slice nilSl] [(0, 1), (1, 1)] [(.bool true), x4] fun x6 =>
  o.bstore 0 2 (.box [.bool false, .slice nilSl]) x6 fun c7 =>
  o.resc 2 true (.box c7) fun r8 =>
  some (r8, H5))
  (o.conv .u64 a0 fun x9 =>
  o.call (C 56 [x9] H) fun x10 H11 =>
  o.build [.bool false, .slice nilSl] [(1, 1)] [x10] fun x12 =>
  o.bstore 0 2 (.box [.bool false, .slice nilSl]) x12 fun c13 =>
  o.resc 2 true (.box c13) fun r14 =>
  some (r14, H11)))
/-- (parquet/zint.Int).Abs -/
def f19 (o : Ops) (K : Nat) (C : CallC) (a0 : SV) (H : Heap) : Rs :=
  o.bbox a0 fun c1 =>
  o.lfld 1 (.box c1) fun x2 =>
  o.lloadp 1 true (.box c1) x2 fun x3 =>
  o.bstore 0 1 (.box [.slice nilSl]) x3 fun c4 =>
  o.resc 1 true (.box c4) fun r5 =>
  some (r5, H)
/-- parquet/nat.Cmp -/
def f20_l3 (o : Ops) (K : Nat) (C : CallC) : SV → SV → SV → Heap → (SV → SV → SV → Heap → Rs) → Rs := fun y23 y24 y25 H26 k27 =>
  o.geq y25 (.int .i64 0) fun x28 =>
  (o.cond x28
  (o.lfld 0 y23 fun x29 =>
  o.lloadp 1 false y23 x29 fun x30 =>
  o.idx 1 x30 y25 fun x31 =>
  o.load 1 false x31 H26 fun x32 =>
  o.lfld 0 y24 fun x33 =>
  o.lloadp 1 false y24 x33 fun x34 =>
  o.idx 1 x34 y25 fun x35 =>
  o.load 1 false x35 H26 fun x36 =>
  o.lss x32 x36 fun x37 =>
  (o.cond x37
  (some ((.int .i64 (-1)), H26))
  (o.lfld 0 y23 fun x39 =>
  o.lloadp 1 false y23 x39 fun x40 =>
  o.idx 1 x40 y25 fun x41 =>
  o.load 1 false x41 H26 fun x42 =>
  o.lfld 0 y24 fun x43 =>
  o.lloadp 1 false y24 x43 fun x44 =>
  o.idx 1 x44 y25 fun x45 =>
  o.load 1 false x45 H26 fun x46 =>
  o.gtr x42 x46 fun x47 =>
  (o.cond x47
  (some ((.int .i64 1), H26))
  (o.sub y25 (.int .i64 1) fun x49 =>
  k27 y23 y24 x49 H26)))))
  (some ((.int .i64 0), H26)))
def f20 (o : Ops) (K : Nat) (C : CallC) (a0 a1 : SV) (H : Heap) : Rs :=
  o.bbox a0 fun c1 =>
  o.bbox a1 fun c2 =>
  o.lfld 0 (.box c1) fun x3 =>
  o.lloadp 1 false (.box c1) x3 fun x4 =>
  o.len x4 fun x5 =>
  o.lfld 0 (.box c2) fun x6 =>
  o.lloadp 1 false (.box c2) x6 fun x7 =>
  o.len x7 fun x8 =>
  o.neq x5 x8 fun x9 =>
  (o.cond x9
  (o.lfld 0 (.box c1) fun x10 =>
  o.lloadp 1 false (.box c1) x10 fun x11 =>
  o.len x11 fun x12 =>
  o.lfld 0 (.box c2) fun x13 =>
  o.lloadp 1 false (.box c2) x13 fun x14 =>
  o.len x14 fun x15 =>
  o.lss x12 x15 fun x16 =>
  (o.cond x16
  (some ((.int .i64 (-1)), H))
  (some ((.int .i64 1), H))))
  (o.lfld 0 (.box c1) fun x19 =>
  o.lloadp 1 false (.box c1) x19 fun x20 =>
  o.len x20 fun x21 =>
  o.sub x21 (.int .i64 1) fun x22 =>
  (o.loop3 (f20_l3 o K C) K (.box c1) (.box c2) x22 H)))
/-- parquet/gram.Change -/
def f21_j7 (o : Ops) (K : Nat) (C : CallC) (q7_15 q7_83 : SV) (H7_0 : Heap) : Rs :=
  (o.cond q7_83
  (some (.tuple [(.slice nilSl), (.int .i64 3)], H7_0))
  (o.rest q7_15 fun r63 =>
  some (.tuple [r63, (.int .i64 0)], H7_0)))
def f21_j2 (o : Ops) (K : Nat) (C : CallC) (q2_0 q2_3 q2_36 : SV) (H2_0 : Heap) : Rs :=
  (o.cond q2_36
  (some (.tuple [(.slice nilSl), (.int .i64 5)], H2_0))
  (o.lload 0 1 true q2_3 fun x16 =>
  o.call (C 13 [x16] H2_0) fun x17 H18 =>
  o.ext 0 x17 fun x19 =>
  o.ext 1 x17 fun x20 =>
  o.bstore 0 2 (.box [.bool false, .slice nilSl]) x19 fun c21 =>
  o.neq x20 (.int .i64 0) fun x22 =>
  (o.cond x22
  (o.rest x20 fun r24 =>
  some (.tuple [(.slice nilSl), r24], H18))
  (o.lload 0 2 true (.box c21) fun x25 =>
  o.call (C 14 [x25] H18) fun x26 H27 =>
  o.eql x26 (.int .i64 0) fun x28 =>
  (o.cond x28
  (some (.tuple [(.slice nilSl), (.int .i64 50)], H27))
  (o.call (C 12 [q2_0] H27) fun x31 H32 =>
  o.ext 0 x31 fun x33 =>
  o.ext 1 x31 fun x34 =>
  o.bstore 0 1 (.box [.slice nilSl]) x33 fun c35 =>
  o.lload 0 1 true q2_3 fun x36 =>
  o.lload 0 1 true (.box c35) fun x37 =>
  o.call (C 23 [x36, x37] H32) fun x38 H39 =>
  o.ext 0 x38 fun x40 =>
  o.ext 1 x38 fun x41 =>
  o.bstore 0 1 (.box [.slice nilSl]) x40 fun c42 =>
  o.neq x41 (.int .i64 0) fun x43 =>
  (o.cond x43
  (some (.tuple [(.slice nilSl), (.int .i64 3)], H39))
  (o.lload 0 1 true (.box c42) fun x46 =>
  o.lload 0 1 true q2_3 fun x47 =>
  o.call (C 58 [x47] H39) fun x48 H49 =>
  o.call (C 23 [x46, x48] H49) fun x50 H51 =>
  o.ext 0 x50 fun x52 =>
  o.ext 1 x50 fun x53 =>
  o.bstore 0 1 (.box c42) x52 fun c54 =>
  o.lload 0 1 true (.box c54) fun x55 =>
  o.call (C 24 [x55] H51) fun x56 H57 =>
  o.ext 0 x56 fun x58 =>
  o.ext 1 x56 fun x59 =>
  o.neq x53 (.int .i64 0) fun x60 =>
  (o.guard x60
  ((f21_j7 o K C x58 (.bool true) H57))
  (o.u_not x59 fun x65 =>
  (o.guard x65
  ((f21_j7 o K C x58 (.bool true) H57))
  (o.call (C 42 [x58, (.fn 59 [] [])] H57) fun x66 H67 =>
  o.u_not x66 fun x68 =>
  (f21_j7 o K C x58 x68 H67))
  (none)))
  (none))))))))))
def f21 (o : Ops) (K : Nat) (C : CallC) (a0 a1 : SV) (H : Heap) : Rs :=
  o.bbox a1 fun c1 =>
  o.call (C 11 [a0] H) fun x2 H3 =>
  o.neq x2 (.int .i64 0) fun x4 =>
  (o.cond x4
  (o.rest x2 fun r6 =>
  some (.tuple [(.slice nilSl), r6], H3))
  (o.len a0 fun x7 =>
  o.lload 0 1 true (.box c1) fun x8 =>
  o.call (C 57 [x8] H3) fun x9 H10 =>
  o.ext 0 x9 fun x11 =>
  o.ext 1 x9 fun x12 =>
  o.neq x11 x7 fun x13 =>
  (o.guard x13
  ((f21_j2 o K C a0 (.box c1) (.bool true) H10))
  (o.neq x12 x7 fun x69 =>
  (f21_j2 o K C a0 (.box c1) x69 H10))
  (none))))
/-- parquet/gram.Det -/
def f22 (o : Ops) (K : Nat) (C : CallC) (a0 : SV) (H : Heap) : Rs :=
  o.call (C 11 [a0] H) fun x1 H2 =>
  o.neq x1 (.int .i64 0) fun x3 =>
  (o.cond x3
  (o.build [.slice nilSl] [] [] fun x4 =>
  o.bstore 0 1 (.box [.slice nilSl]) x4 fun c5 =>
  o.resc 1 true (.box c5) fun r6 =>
  o.rest x1 fun r7 =>
  some (.tuple [r6, r7], H2))
  (o.call (C 12 [a0] H2) fun x8 H9 =>
  o.ext 0 x8 fun x10 =>
  o.ext 1 x8 fun x11 =>
  o.bstore 0 1 (.box [.slice nilSl]) x10 fun c12 =>
  o.lload 0 1 true (.box c12) fun x13 =>
  o.call (C 13 [x13] H9) fun x14 H15 =>
  o.ext 0 x14 fun x16 =>
  o.ext 1 x14 fun x17 =>
  o.bstore 0 2 (.box [.bool false, .slice nilSl]) x16 fun c18 =>
  o.lload 0 2 true (.box c18) fun x19 =>
  o.call (C 19 [x19] H15) fun x20 H21 =>
  o.bstore 0 1 (.box [.slice nilSl]) x20 fun c22 =>
  o.resc 1 true (.box c22) fun r23 =>
  some (.tuple [r23, (.int .i64 0)], H21)))
/-- parquet/mat.Mul -/
def f23 (o : Ops) (K : Nat) (C : CallC) (a0 a1 : SV) (H : Heap) : Rs :=
  o.box a0 H fun x1 H2 =>
  o.box a1 H2 fun x3 H4 =>
  o.load 1 true x1 H4 fun x5 =>
  o.call (C 57 [x5] H4) fun x6 H7 =>
  o.ext 0 x6 fun x8 =>
  o.ext 1 x6 fun x9 =>
  o.alloc [.int .i64 0] H7 fun x10 H11 =>
  o.store 1 x10 x9 H11 fun H13 =>
  o.load 1 true x3 H13 fun x14 =>
  o.call (C 57 [x14] H13) fun x15 H16 =>
  o.ext 0 x15 fun x17 =>
  o.ext 1 x15 fun x18 =>
  o.load 1 false x10 H16 fun x19 =>
  o.neq x19 x17 fun x20 =>
  (o.cond x20
  (o.build [.slice nilSl] [] [] fun x21 =>
  o.bstore 0 1 (.box [.slice nilSl]) x21 fun c22 =>
  o.resc 1 true (.box c22) fun r23 =>
  some (.tuple [r23, (.int .i64 5)], H16))
  (o.mkfn 61 0 [x10, x1, x3] fun x25 =>
  o.call (C 60 [x8, x18, x25] H16) fun x26 H27 =>
  o.ext 0 x26 fun x28 =>
  o.ext 1 x26 fun x29 =>
  o.bstore 0 1 (.box [.slice nilSl]) x28 fun c30 =>
  o.resc 1 true (.box c30) fun r31 =>
  o.rest x29 fun r32 =>
  some (.tuple [r31, r32], H27)))
/-- (parquet/mat.Mat).Int64 -/
def f24_l3 (o : Ops) (K : Nat) (C : CallC) (k10 : SV → SV → SV → SV → Heap → Rs) : SV → SV → SV → SV → SV → SV → SV → SV → Heap → (SV → SV → SV → SV → SV → SV → SV → SV → Heap → Rs) → Rs := fun y15 y16 y17 y18 y19 y20 y21 y22 H23 k24 =>
  o.lss y22 y21 fun x25 =>
  (o.cond x25
  (o.idx 2 y20 y22 fun x26 =>
  o.load 2 true x26 H23 fun x27 =>
  o.bstore 0 2 (.box [.bool false, .slice nilSl]) x27 fun c28 =>
  o.lload 0 2 true (.box c28) fun x29 =>
  o.call (C 64 [x29] H23) fun x30 H31 =>
  o.ext 0 x30 fun x32 =>
  o.ext 1 x30 fun x33 =>
  o.u_not x33 fun x34 =>
  (o.cond x34
  (some (.tuple [(.slice nilSl), (.bool false)], H31))
  (o.hbuild 1 [.int .i64 0] [(0, 1)] [x32] H31 fun x37 H38 =>
  o.append 1 8 y16 x37 H38 fun x39 H40 =>
  o.add y22 (.int .i64 1) fun x41 =>
  k24 y15 x39 y17 y18 y19 y20 y21 x41 H40)))
  (o.hbuild 1 [.slice nilSl] [(0, 1)] [y16] H23 fun x42 H43 =>
  o.append 1 24 y15 x42 H43 fun x44 H45 =>
  o.add y19 (.int .i64 1) fun x46 =>
  k10 x44 y17 y18 x46 H45))
def f24_l1 (o : Ops) (K : Nat) (C : CallC) : SV → SV → SV → SV → Heap → (SV → SV → SV → SV → Heap → Rs) → Rs := fun y5 y6 y7 y8 H9 k10 =>
  o.lss y8 y7 fun x11 =>
  (o.cond x11
  (o.idx 1 y6 y8 fun x12 =>
  o.load 1 false x12 H9 fun x13 =>
  o.len x13 fun x14 =>
  (o.loop8 (f24_l3 o K C k10) K y5 (.slice nilSl) y6 y7 y8 x13 x14 (.int .i64 0) H9))
  (o.rest y5 fun r47 =>
  some (.tuple [r47, (.bool true)], H9)))
def f24 (o : Ops) (K : Nat) (C : CallC) (a0 : SV) (H : Heap) : Rs :=
  o.bbox a0 fun c1 =>
  o.lfld 0 (.box c1) fun x2 =>
  o.lloadp 1 false (.box c1) x2 fun x3 =>
  o.len x3 fun x4 =>
  (o.loop4 (f24_l1 o K C) K (.slice nilSl) x3 x4 (.int .i64 0) H)
/-- parquet/parquetlaw07.twin -/
def f25_l1 (o : Ops) (K : Nat) (C : CallC) : SV → SV → SV → SV → Heap → (SV → SV → SV → SV → Heap → Rs) → Rs := fun y2 y3 y4 y5 H6 k7 =>
  o.lss y5 y4 fun x8 =>
  (o.cond x8
  (o.idx 1 y2 y5 fun x9 =>
  o.load 1 false x9 H6 fun x10 =>
  o.append 1 8 (.slice nilSl) x10 H6 fun x11 H12 =>
  o.hbuild 1 [.int .i64 0] [(0, 1)] [(.int .i64 78)] H12 fun x13 H14 =>
  o.append 1 8 x11 x13 H14 fun x15 H16 =>
  o.idx 1 y2 y5 fun x17 =>
  o.load 1 false x17 H16 fun x18 =>
  o.len x18 fun x19 =>
  o.slice010 1 x15 x19 H16 fun x20 =>
  o.hbuild 1 [.slice nilSl] [(0, 1)] [x20] H16 fun x21 H22 =>
  o.append 1 24 y3 x21 H22 fun x23 H24 =>
  o.add y5 (.int .i64 1) fun x25 =>
  k7 y2 x23 y4 x25 H24)
  (o.rest y3 fun r26 =>
  some (r26, H6)))
def f25 (o : Ops) (K : Nat) (C : CallC) (a0 : SV) (H : Heap) : Rs :=
  o.len a0 fun x1 =>
  (o.loop4 (f25_l1 o K C) K a0 (.slice nilSl) x1 (.int .i64 0) H)
/-- parquet/parquetlaw07.kept -/
def f26_l2 (o : Ops) (K : Nat) (C : CallC) : SV → SV → SV → Heap → (SV → SV → SV → Heap → Rs) → Rs := fun y6 y7 y8 H9 k10 =>
  o.lss y8 y7 fun x11 =>
  (o.cond x11
  (o.idx 1 y6 y8 fun x12 =>
  o.load 1 false x12 H9 fun x13 =>
  o.len x13 fun x14 =>
  o.idx 1 y6 y8 fun x15 =>
  o.load 1 false x15 H9 fun x16 =>
  o.add x14 (.int .i64 1) fun x17 =>
  o.add x14 (.int .i64 1) fun x18 =>
  o.slice011 1 x16 x17 x18 H9 fun x19 =>
  o.idx 1 x19 x14 fun x20 =>
  o.load 1 false x20 H9 fun x21 =>
  o.neq x21 (.int .i64 78) fun x22 =>
  (o.cond x22
  (some ((.bool false), H9))
  (o.add y8 (.int .i64 1) fun x24 =>
  k10 y6 y7 x24 H9)))
  (some ((.bool true), H9)))
def f26 (o : Ops) (K : Nat) (C : CallC) (a0 a1 : SV) (H : Heap) : Rs :=
  o.call (C 27 [a0, a1] H) fun x1 H2 =>
  o.u_not x1 fun x3 =>
  (o.cond x3
  (some ((.bool false), H2))
  (o.len a1 fun x5 =>
  (o.loop3 (f26_l2 o K C) K a1 x5 (.int .i64 0) H2)))
/-- parquet/parquetref07.Same -/
def f27_l5 (o : Ops) (K : Nat) (C : CallC) (k9 : SV → SV → SV → Heap → Rs) : SV → SV → SV → SV → Heap → (SV → SV → SV → SV → Heap → Rs) → Rs := fun y20 y21 y22 y23 H24 k25 =>
  o.idx 1 y20 y22 fun x26 =>
  o.load 1 false x26 H24 fun x27 =>
  o.len x27 fun x28 =>
  o.lss y23 x28 fun x29 =>
  (o.cond x29
  (o.idx 1 y20 y22 fun x30 =>
  o.load 1 false x30 H24 fun x31 =>
  o.idx 1 x31 y23 fun x32 =>
  o.load 1 false x32 H24 fun x33 =>
  o.idx 1 y21 y22 fun x34 =>
  o.load 1 false x34 H24 fun x35 =>
  o.idx 1 x35 y23 fun x36 =>
  o.load 1 false x36 H24 fun x37 =>
  o.neq x33 x37 fun x38 =>
  (o.cond x38
  (some ((.bool false), H24))
  (o.add y23 (.int .i64 1) fun x40 =>
  k25 y20 y21 y22 x40 H24)))
  (o.add y22 (.int .i64 1) fun x41 =>
  k9 y20 y21 x41 H24))
def f27_l2 (o : Ops) (K : Nat) (C : CallC) : SV → SV → SV → Heap → (SV → SV → SV → Heap → Rs) → Rs := fun y5 y6 y7 H8 k9 =>
  o.len y5 fun x10 =>
  o.lss y7 x10 fun x11 =>
  (o.cond x11
  (o.idx 1 y5 y7 fun x12 =>
  o.load 1 false x12 H8 fun x13 =>
  o.len x13 fun x14 =>
  o.idx 1 y6 y7 fun x15 =>
  o.load 1 false x15 H8 fun x16 =>
  o.len x16 fun x17 =>
  o.neq x14 x17 fun x18 =>
  (o.cond x18
  (some ((.bool false), H8))
  ((o.loop4 (f27_l5 o K C k9) K y5 y6 y7 (.int .i64 0) H8))))
  (some ((.bool true), H8)))
def f27 (o : Ops) (K : Nat) (C : CallC) (a0 a1 : SV) (H : Heap) : Rs :=
  o.len a0 fun x1 =>
  o.len a1 fun x2 =>
  o.neq x1 x2 fun x3 =>
  (o.cond x3
  (some ((.bool false), H))
  ((o.loop3 (f27_l2 o K C) K a0 a1 (.int .i64 0) H)))
/-- parquet/parquetref07.Check -/
def f28_j12 (o : Ops) (K : Nat) (C : CallC) (k27 : SV → SV → SV → Heap → Rs) (q12_0 q12_4 q12_5 q12_61 : SV) (H12_0 : Heap) : Rs :=
  (o.cond q12_61
  (some ((.int .i64 3), H12_0))
  (o.add q12_5 (.int .i64 1) fun x36 =>
  k27 q12_0 q12_4 x36 H12_0))
def f28_l10 (o : Ops) (K : Nat) (C : CallC) (k20 : SV → SV → Heap → Rs) : SV → SV → SV → Heap → (SV → SV → SV → Heap → Rs) → Rs := fun y23 y24 y25 H26 k27 =>
  o.len y23 fun x28 =>
  o.lss y25 x28 fun x29 =>
  (o.cond x29
  (o.idx 1 y23 y24 fun x30 =>
  o.load 1 false x30 H26 fun x31 =>
  o.idx 1 x31 y25 fun x32 =>
  o.load 1 false x32 H26 fun x33 =>
  o.gtr x33 (.int .i64 16384) fun x34 =>
  (o.guard x34
  ((f28_j12 o K C k27 y23 y24 y25 (.bool true) H26))
  (o.idx 1 y23 y24 fun x37 =>
  o.load 1 false x37 H26 fun x38 =>
  o.idx 1 x38 y25 fun x39 =>
  o.load 1 false x39 H26 fun x40 =>
  o.lss x40 (.int .i64 (-16384)) fun x41 =>
  (f28_j12 o K C k27 y23 y24 y25 x41 H26))
  (none)))
  (o.add y24 (.int .i64 1) fun x42 =>
  k20 y23 x42 H26))
def f28_l20 (o : Ops) (K : Nat) (C : CallC) (k46 : SV → SV → Heap → Rs) : SV → SV → SV → Heap → (SV → SV → SV → Heap → Rs) → Rs := fun y49 y50 y51 H52 k53 =>
  o.lss y51 y50 fun x54 =>
  (o.cond x54
  (o.idx 1 y49 y50 fun x55 =>
  o.load 1 false x55 H52 fun x56 =>
  o.idx 1 x56 y51 fun x57 =>
  o.load 1 false x57 H52 fun x58 =>
  o.idx 1 y49 y51 fun x59 =>
  o.load 1 false x59 H52 fun x60 =>
  o.idx 1 x60 y50 fun x61 =>
  o.load 1 false x61 H52 fun x62 =>
  o.neq x58 x62 fun x63 =>
  (o.cond x63
  (some ((.int .i64 6), H52))
  (o.add y51 (.int .i64 1) fun x65 =>
  k53 y49 y50 x65 H52)))
  (o.add y50 (.int .i64 1) fun x66 =>
  k46 y49 x66 H52))
def f28_j29 (o : Ops) (K : Nat) (C : CallC) (k70 : SV → SV → Heap → Rs) (q29_0 q29_8 q29_104 : SV) (H29_0 : Heap) : Rs :=
  (o.cond q29_104
  (some ((.int .i64 6), H29_0))
  (o.add q29_8 (.int .i64 1) fun x79 =>
  k70 q29_0 x79 H29_0))
def f28_l27 (o : Ops) (K : Nat) (C : CallC) : SV → SV → Heap → (SV → SV → Heap → Rs) → Rs := fun y67 y68 H69 k70 =>
  o.len y67 fun x71 =>
  o.leq y68 x71 fun x72 =>
  (o.cond x72
  (o.call (C 65 [y67, y68] H69) fun x73 H74 =>
  o.bstore 0 2 (.box [.bool false, .slice nilSl]) x73 fun c75 =>
  o.lfld 0 (.box c75) fun x76 =>
  o.lloadp 1 false (.box c75) x76 fun x77 =>
  (o.guard x77
  ((f28_j29 o K C k70 y67 y68 (.bool true) H74))
  (o.lfld 1 (.box c75) fun x80 =>
  o.lloadp 1 false (.box c75) x80 fun x81 =>
  o.len x81 fun x82 =>
  o.eql x82 (.int .i64 0) fun x83 =>
  (f28_j29 o K C k70 y67 y68 x83 H74))
  (none)))
  (some ((.int .i64 0), H69)))
def f28_l18 (o : Ops) (K : Nat) (C : CallC) : SV → SV → Heap → (SV → SV → Heap → Rs) → Rs := fun y43 y44 H45 k46 =>
  o.len y43 fun x47 =>
  o.lss y44 x47 fun x48 =>
  (o.cond x48
  ((o.loop3 (f28_l20 o K C k46) K y43 y44 (.int .i64 0) H45))
  ((o.loop2 (f28_l27 o K C) K y43 (.int .i64 1) H45)))
def f28_l8 (o : Ops) (K : Nat) (C : CallC) : SV → SV → Heap → (SV → SV → Heap → Rs) → Rs := fun y17 y18 H19 k20 =>
  o.len y17 fun x21 =>
  o.lss y18 x21 fun x22 =>
  (o.cond x22
  ((o.loop3 (f28_l10 o K C k20) K y17 y18 (.int .i64 0) H19))
  ((o.loop2 (f28_l18 o K C) K y17 (.int .i64 0) H19)))
def f28_l3 (o : Ops) (K : Nat) (C : CallC) : SV → SV → Heap → (SV → SV → Heap → Rs) → Rs := fun y4 y5 H6 k7 =>
  o.len y4 fun x8 =>
  o.lss y5 x8 fun x9 =>
  (o.cond x9
  (o.idx 1 y4 y5 fun x10 =>
  o.load 1 false x10 H6 fun x11 =>
  o.len x11 fun x12 =>
  o.len y4 fun x13 =>
  o.neq x12 x13 fun x14 =>
  (o.cond x14
  (some ((.int .i64 5), H6))
  (o.add y5 (.int .i64 1) fun x16 =>
  k7 y4 x16 H6)))
  ((o.loop2 (f28_l8 o K C) K y4 (.int .i64 0) H6)))
def f28_j1 (o : Ops) (K : Nat) (C : CallC) (q1_0 q1_17 : SV) (H1_0 : Heap) : Rs :=
  (o.cond q1_17
  (some ((.int .i64 5), H1_0))
  ((o.loop2 (f28_l3 o K C) K q1_0 (.int .i64 0) H1_0)))
def f28 (o : Ops) (K : Nat) (C : CallC) (a0 : SV) (H : Heap) : Rs :=
  o.len a0 fun x1 =>
  o.lss x1 (.int .i64 1) fun x2 =>
  (o.guard x2
  ((f28_j1 o K C a0 (.bool true) H))
  (o.len a0 fun x85 =>
  o.gtr x85 (.int .i64 8) fun x86 =>
  (f28_j1 o K C a0 x86 H))
  (none))
/-- (parquet/nat.Nat).Bits -/
def f32 (o : Ops) (K : Nat) (C : CallC) (a0 : SV) (H : Heap) : Rs :=
  o.bbox a0 fun c1 =>
  o.lfld 0 (.box c1) fun x2 =>
  o.lloadp 1 false (.box c1) x2 fun x3 =>
  o.len x3 fun x4 =>
  o.eql x4 (.int .i64 0) fun x5 =>
  (o.cond x5
  (some ((.int .i64 0), H))
  (o.lfld 0 (.box c1) fun x7 =>
  o.lloadp 1 false (.box c1) x7 fun x8 =>
  o.len x8 fun x9 =>
  o.sub x9 (.int .i64 1) fun x10 =>
  o.mul (.int .i64 32) x10 fun x11 =>
  o.lfld 0 (.box c1) fun x12 =>
  o.lloadp 1 false (.box c1) x12 fun x13 =>
  o.lfld 0 (.box c1) fun x14 =>
  o.lloadp 1 false (.box c1) x14 fun x15 =>
  o.len x15 fun x16 =>
  o.sub x16 (.int .i64 1) fun x17 =>
  o.idx 1 x13 x17 fun x18 =>
  o.load 1 false x18 H fun x19 =>
  o.call (C 71 [x19] H) fun x20 H21 =>
  o.add x11 x20 fun x22 =>
  o.rest x22 fun r23 =>
  some (r23, H21)))
/-- (parquet/nat.Nat).Text -/
def f33_j5 (o : Ops) (K : Nat) (C : CallC) (k14 : SV → SV → Heap → Rs) (k27 : SV → SV → SV → SV → Heap → Rs) (q5_3 q5_4 q5_5 q5_6 q5_34 : SV) (H5_0 : Heap) : Rs :=
  (o.cond q5_34
  (o.rem q5_5 (.int .u32 10) fun x31 =>
  o.add (.int .u32 48) x31 fun x32 =>
  o.conv .u8 x32 fun x33 =>
  o.hbuild 1 [.int .u8 0] [(0, 1)] [x33] H5_0 fun x34 H35 =>
  o.append 1 1 q5_4 x34 H35 fun x36 H37 =>
  o.quo q5_5 (.int .u32 10) fun x38 =>
  o.add q5_6 (.int .i64 1) fun x39 =>
  k27 q5_3 x36 x38 x39 H37)
  (k14 q5_3 q5_4 H5_0))
def f33_l4 (o : Ops) (K : Nat) (C : CallC) (k14 : SV → SV → Heap → Rs) : SV → SV → SV → SV → Heap → (SV → SV → SV → SV → Heap → Rs) → Rs := fun y22 y23 y24 y25 H26 k27 =>
  o.lss y25 (.int .i64 9) fun x28 =>
  (o.guard x28
  (o.len y22 fun x29 =>
  o.gtr x29 (.int .i64 0) fun x30 =>
  (o.guard x30
  ((f33_j5 o K C k14 k27 y22 y23 y24 y25 (.bool true) H26))
  (o.gtr y24 (.int .u32 0) fun x40 =>
  (f33_j5 o K C k14 k27 y22 y23 y24 y25 x40 H26))
  (none)))
  ((f33_j5 o K C k14 k27 y22 y23 y24 y25 (.bool false) H26))
  (none))
def f33_l11 (o : Ops) (K : Nat) (C : CallC) : SV → SV → SV → Heap → (SV → SV → SV → Heap → Rs) → Rs := fun y43 y44 y45 H46 k47 =>
  o.lss y44 y45 fun x48 =>
  (o.cond x48
  (o.idx 1 y43 y45 fun x49 =>
  o.load 1 false x49 H46 fun x50 =>
  o.idx 1 y43 y44 fun x51 =>
  o.load 1 false x51 H46 fun x52 =>
  o.idx 1 y43 y44 fun x53 =>
  o.store 1 x53 x50 H46 fun H55 =>
  o.idx 1 y43 y45 fun x56 =>
  o.store 1 x56 x52 H55 fun H58 =>
  o.add y44 (.int .i64 1) fun x59 =>
  o.sub y45 (.int .i64 1) fun x60 =>
  k47 y43 x59 x60 H58)
  (o.str y43 H46 fun x61 =>
  o.rest x61 fun r62 =>
  some (r62, H46)))
def f33_l2 (o : Ops) (K : Nat) (C : CallC) : SV → SV → Heap → (SV → SV → Heap → Rs) → Rs := fun y11 y12 H13 k14 =>
  o.len y11 fun x15 =>
  o.gtr x15 (.int .i64 0) fun x16 =>
  (o.cond x16
  (o.call (C 72 [y11, (.int .u32 1000000000)] H13) fun x17 H18 =>
  o.call (C 73 [y11] H18) fun x19 H20 =>
  o.fieldv 0 1 false x19 fun x21 =>
  (o.loop4 (f33_l4 o K C k14) K x21 y12 x17 (.int .i64 0) H20))
  (o.len y12 fun x41 =>
  o.sub x41 (.int .i64 1) fun x42 =>
  (o.loop3 (f33_l11 o K C) K y12 (.int .i64 0) x42 H13)))
def f33 (o : Ops) (K : Nat) (C : CallC) (a0 : SV) (H : Heap) : Rs :=
  o.bbox a0 fun c1 =>
  o.lfld 0 (.box c1) fun x2 =>
  o.lloadp 1 false (.box c1) x2 fun x3 =>
  o.len x3 fun x4 =>
  o.eql x4 (.int .i64 0) fun x5 =>
  (o.cond x5
  (some ((.str [48]), H))
  (o.lfld 0 (.box c1) fun x7 =>
  o.lloadp 1 false (.box c1) x7 fun x8 =>
  o.append 1 4 (.slice nilSl) x8 H fun x9 H10 =>
  (o.loop2 (f33_l2 o K C) K x9 (.slice nilSl) H10)))
/-- parquet/gram.Sum -/
def f37 (o : Ops) (K : Nat) (C : CallC) (a0 a1 : SV) (H : Heap) : Rs :=
  o.box a0 H fun x1 H2 =>
  o.box a1 H2 fun x3 H4 =>
  o.load 1 false x1 H4 fun x5 =>
  o.call (C 11 [x5] H4) fun x6 H7 =>
  o.neq x6 (.int .i64 0) fun x8 =>
  (o.cond x8
  (o.rest x6 fun r10 =>
  some (.tuple [(.slice nilSl), r10], H7))
  (o.load 1 false x3 H7 fun x11 =>
  o.call (C 11 [x11] H7) fun x12 H13 =>
  o.neq x12 (.int .i64 0) fun x14 =>
  (o.cond x14
  (o.rest x12 fun r16 =>
  some (.tuple [(.slice nilSl), r16], H13))
  (o.load 1 false x1 H13 fun x17 =>
  o.len x17 fun x18 =>
  o.alloc [.int .i64 0] H13 fun x19 H20 =>
  o.store 1 x19 x18 H20 fun H22 =>
  o.load 1 false x19 H22 fun x23 =>
  o.load 1 false x3 H22 fun x24 =>
  o.len x24 fun x25 =>
  o.add x23 x25 fun x26 =>
  o.gtr x26 (.int .i64 8) fun x27 =>
  (o.cond x27
  (some (.tuple [(.slice nilSl), (.int .i64 5)], H22))
  (o.load 1 false x19 H22 fun x30 =>
  o.load 1 false x3 H22 fun x31 =>
  o.len x31 fun x32 =>
  o.add x30 x32 fun x33 =>
  o.mkfn 76 0 [x19, x1, x3] fun x34 =>
  o.call (C 75 [x33, x34] H22) fun x35 H36 =>
  o.rest x35 fun r37 =>
  some (.tuple [r37, (.int .i64 0)], H36)))))))
/-- parquet/gram.Scale -/
def f38_j3 (o : Ops) (K : Nat) (C : CallC) (q3_2 q3_3 q3_21 : SV) (H3_0 : Heap) : Rs :=
  (o.cond q3_21
  (some (.tuple [(.slice nilSl), (.int .i64 3)], H3_0))
  (o.load 1 false q3_2 H3_0 fun x19 =>
  o.len x19 fun x20 =>
  o.mkfn 78 0 [q3_2, q3_3] fun x21 =>
  o.call (C 75 [x20, x21] H3_0) fun x22 H23 =>
  o.rest x22 fun r24 =>
  some (.tuple [r24, (.int .i64 0)], H23)))
def f38 (o : Ops) (K : Nat) (C : CallC) (a0 a1 : SV) (H : Heap) : Rs :=
  o.box a0 H fun x1 H2 =>
  o.box a1 H2 fun x3 H4 =>
  o.load 1 false x1 H4 fun x5 =>
  o.call (C 11 [x5] H4) fun x6 H7 =>
  o.neq x6 (.int .i64 0) fun x8 =>
  (o.cond x8
  (o.rest x6 fun r10 =>
  some (.tuple [(.slice nilSl), r10], H7))
  (o.load 1 false x3 H7 fun x11 =>
  o.lss x11 (.int .i64 1) fun x12 =>
  (o.cond x12
  (some (.tuple [(.slice nilSl), (.int .i64 2)], H7))
  (o.load 1 false x3 H7 fun x15 =>
  o.gtr x15 (.int .i64 16384) fun x16 =>
  (o.guard x16
  ((f38_j3 o K C x1 x3 (.bool true) H7))
  (o.load 1 false x1 H7 fun x26 =>
  o.mkfn 77 0 [x3] fun x27 =>
  o.call (C 42 [x26, x27] H7) fun x28 H29 =>
  o.u_not x28 fun x30 =>
  (f38_j3 o K C x1 x3 x30 H29))
  (none))))))
/-- parquet/parquetref07.Scale -/
def f39_j6 (o : Ops) (K : Nat) (C : CallC) (k19 : SV → SV → SV → SV → SV → SV → Heap → Rs) (q6_0 q6_1 q6_6 q6_7 q6_8 q6_9 q6_59 : SV) (H6_0 : Heap) : Rs :=
  (o.cond q6_59
  (some (.tuple [(.slice nilSl), (.int .i64 3)], H6_0))
  (o.idx 1 q6_0 q6_7 fun x30 =>
  o.load 1 false x30 H6_0 fun x31 =>
  o.idx 1 x31 q6_9 fun x32 =>
  o.load 1 false x32 H6_0 fun x33 =>
  o.mul q6_1 x33 fun x34 =>
  o.hbuild 1 [.int .i64 0] [(0, 1)] [x34] H6_0 fun x35 H36 =>
  o.append 1 8 q6_8 x35 H36 fun x37 H38 =>
  o.add q6_9 (.int .i64 1) fun x39 =>
  k19 q6_0 q6_1 q6_6 q6_7 x37 x39 H38))
def f39_l4 (o : Ops) (K : Nat) (C : CallC) (k9 : SV → SV → SV → SV → Heap → Rs) : SV → SV → SV → SV → SV → SV → Heap → (SV → SV → SV → SV → SV → SV → Heap → Rs) → Rs := fun y12 y13 y14 y15 y16 y17 H18 k19 =>
  o.len y12 fun x20 =>
  o.lss y17 x20 fun x21 =>
  (o.cond x21
  (o.gtr y13 (.int .i64 16384) fun x22 =>
  (o.guard x22
  (o.idx 1 y12 y15 fun x23 =>
  o.load 1 false x23 H18 fun x24 =>
  o.idx 1 x24 y17 fun x25 =>
  o.load 1 false x25 H18 fun x26 =>
  o.neq x26 (.int .i64 0) fun x27 =>
  (o.guard x27
  ((f39_j6 o K C k19 y12 y13 y14 y15 y16 y17 (.bool true) H18))
  (o.idx 1 y12 y15 fun x40 =>
  o.load 1 false x40 H18 fun x41 =>
  o.idx 1 x41 y17 fun x42 =>
  o.load 1 false x42 H18 fun x43 =>
  o.mul y13 x43 fun x44 =>
  o.gtr x44 (.int .i64 16384) fun x45 =>
  (o.guard x45
  ((f39_j6 o K C k19 y12 y13 y14 y15 y16 y17 (.bool true) H18))
  (o.idx 1 y12 y15 fun x46 =>
  o.load 1 false x46 H18 fun x47 =>
  o.idx 1 x47 y17 fun x48 =>
  o.load 1 false x48 H18 fun x49 =>
  o.mul y13 x49 fun x50 =>
  o.lss x50 (.int .i64 (-16384)) fun x51 =>
  (f39_j6 o K C k19 y12 y13 y14 y15 y16 y17 x51 H18))
  (none)))
  (none)))
  (o.idx 1 y12 y15 fun x52 =>
  o.load 1 false x52 H18 fun x53 =>
  o.idx 1 x53 y17 fun x54 =>
  o.load 1 false x54 H18 fun x55 =>
  o.mul y13 x55 fun x56 =>
  o.gtr x56 (.int .i64 16384) fun x57 =>
  (o.guard x57
  ((f39_j6 o K C k19 y12 y13 y14 y15 y16 y17 (.bool true) H18))
  (o.idx 1 y12 y15 fun x58 =>
  o.load 1 false x58 H18 fun x59 =>
  o.idx 1 x59 y17 fun x60 =>
  o.load 1 false x60 H18 fun x61 =>
  o.mul y13 x61 fun x62 =>
  o.lss x62 (.int .i64 (-16384)) fun x63 =>
  (f39_j6 o K C k19 y12 y13 y14 y15 y16 y17 x63 H18))
  (none)))
  (none)))
  (o.hbuild 1 [.slice nilSl] [(0, 1)] [y16] H18 fun x64 H65 =>
  o.append 1 24 y14 x64 H65 fun x66 H67 =>
  o.add y15 (.int .i64 1) fun x68 =>
  k9 y12 y13 x66 x68 H67))
def f39_l2 (o : Ops) (K : Nat) (C : CallC) : SV → SV → SV → SV → Heap → (SV → SV → SV → SV → Heap → Rs) → Rs := fun y4 y5 y6 y7 H8 k9 =>
  o.len y4 fun x10 =>
  o.lss y7 x10 fun x11 =>
  (o.cond x11
  ((o.loop6 (f39_l4 o K C k9) K y4 y5 y6 y7 (.slice nilSl) (.int .i64 0) H8))
  (o.rest y6 fun r69 =>
  some (.tuple [r69, (.int .i64 0)], H8)))
def f39 (o : Ops) (K : Nat) (C : CallC) (a0 a1 : SV) (H : Heap) : Rs :=
  o.lss a1 (.int .i64 1) fun x1 =>
  (o.cond x1
  (some (.tuple [(.slice nilSl), (.int .i64 2)], H))
  ((o.loop4 (f39_l2 o K C) K a0 a1 (.slice nilSl) (.int .i64 0) H)))
/-- parquet/parquetref07.Sum -/
def f40_j9 (o : Ops) (K : Nat) (C : CallC) (k25 : SV → SV → SV → SV → SV → SV → SV → Heap → Rs) (q9_0 q9_1 q9_6 q9_7 q9_8 q9_9 q9_10 : SV) (H9_0 : Heap) : Rs :=
  o.add q9_10 (.int .i64 1) fun x53 =>
  k25 q9_0 q9_1 q9_6 q9_7 q9_8 q9_9 x53 H9_0
def f40_j8 (o : Ops) (K : Nat) (C : CallC) (k25 : SV → SV → SV → SV → SV → SV → SV → Heap → Rs) (q8_0 q8_1 q8_6 q8_7 q8_8 q8_9 q8_10 q8_59 : SV) (H8_0 : Heap) : Rs :=
  (o.cond q8_59
  (o.len q8_0 fun x42 =>
  o.sub q8_8 x42 fun x43 =>
  o.idx 1 q8_1 x43 fun x44 =>
  o.load 1 false x44 H8_0 fun x45 =>
  o.len q8_0 fun x46 =>
  o.sub q8_10 x46 fun x47 =>
  o.idx 1 x45 x47 fun x48 =>
  o.load 1 false x48 H8_0 fun x49 =>
  o.idx 1 q8_9 q8_10 fun x50 =>
  o.store 1 x50 x49 H8_0 fun H52 =>
  (f40_j9 o K C k25 q8_0 q8_1 q8_6 q8_7 q8_8 q8_9 q8_10 H52))
  ((f40_j9 o K C k25 q8_0 q8_1 q8_6 q8_7 q8_8 q8_9 q8_10 H8_0)))
def f40_j7 (o : Ops) (K : Nat) (C : CallC) (k25 : SV → SV → SV → SV → SV → SV → SV → Heap → Rs) (q7_0 q7_1 q7_6 q7_7 q7_8 q7_9 q7_10 : SV) (H7_0 : Heap) : Rs :=
  o.len q7_0 fun x38 =>
  o.geq q7_8 x38 fun x39 =>
  (o.guard x39
  (o.len q7_0 fun x40 =>
  o.geq q7_10 x40 fun x41 =>
  (f40_j8 o K C k25 q7_0 q7_1 q7_6 q7_7 q7_8 q7_9 q7_10 x41 H7_0))
  ((f40_j8 o K C k25 q7_0 q7_1 q7_6 q7_7 q7_8 q7_9 q7_10 (.bool false) H7_0))
  (none))
def f40_j6 (o : Ops) (K : Nat) (C : CallC) (k25 : SV → SV → SV → SV → SV → SV → SV → Heap → Rs) (q6_0 q6_1 q6_6 q6_7 q6_8 q6_9 q6_10 q6_39 : SV) (H6_0 : Heap) : Rs :=
  (o.cond q6_39
  (o.idx 1 q6_0 q6_8 fun x31 =>
  o.load 1 false x31 H6_0 fun x32 =>
  o.idx 1 x32 q6_10 fun x33 =>
  o.load 1 false x33 H6_0 fun x34 =>
  o.idx 1 q6_9 q6_10 fun x35 =>
  o.store 1 x35 x34 H6_0 fun H37 =>
  (f40_j7 o K C k25 q6_0 q6_1 q6_6 q6_7 q6_8 q6_9 q6_10 H37))
  ((f40_j7 o K C k25 q6_0 q6_1 q6_6 q6_7 q6_8 q6_9 q6_10 H6_0)))
def f40_l4 (o : Ops) (K : Nat) (C : CallC) (k13 : SV → SV → SV → SV → SV → Heap → Rs) : SV → SV → SV → SV → SV → SV → SV → Heap → (SV → SV → SV → SV → SV → SV → SV → Heap → Rs) → Rs := fun y17 y18 y19 y20 y21 y22 y23 H24 k25 =>
  o.lss y23 y19 fun x26 =>
  (o.cond x26
  (o.len y17 fun x27 =>
  o.lss y21 x27 fun x28 =>
  (o.guard x28
  (o.len y17 fun x29 =>
  o.lss y23 x29 fun x30 =>
  (f40_j6 o K C k25 y17 y18 y19 y20 y21 y22 y23 x30 H24))
  ((f40_j6 o K C k25 y17 y18 y19 y20 y21 y22 y23 (.bool false) H24))
  (none)))
  (o.hbuild 1 [.slice nilSl] [(0, 1)] [y22] H24 fun x54 H55 =>
  o.append 1 24 y20 x54 H55 fun x56 H57 =>
  o.add y21 (.int .i64 1) fun x58 =>
  k13 y17 y18 y19 x56 x58 H57))
def f40_l2 (o : Ops) (K : Nat) (C : CallC) : SV → SV → SV → SV → SV → Heap → (SV → SV → SV → SV → SV → Heap → Rs) → Rs := fun y7 y8 y9 y10 y11 H12 k13 =>
  o.lss y11 y9 fun x14 =>
  (o.cond x14
  (o.make 1 8 [.int .i64 0] y9 y9 H12 fun x15 H16 =>
  (o.loop7 (f40_l4 o K C k13) K y7 y8 y9 y10 y11 x15 (.int .i64 0) H16))
  (o.rest y10 fun r59 =>
  some (.tuple [r59, (.int .i64 0)], H12)))
def f40 (o : Ops) (K : Nat) (C : CallC) (a0 a1 : SV) (H : Heap) : Rs :=
  o.len a0 fun x1 =>
  o.len a1 fun x2 =>
  o.add x1 x2 fun x3 =>
  o.gtr x3 (.int .i64 8) fun x4 =>
  (o.cond x4
  (some (.tuple [(.slice nilSl), (.int .i64 5)], H))
  ((o.loop5 (f40_l2 o K C) K a0 a1 x3 (.slice nilSl) (.int .i64 0) H)))
/-- parquet/parquetlaw07.spoil -/
def f41_l3 (o : Ops) (K : Nat) (C : CallC) (k6 : SV → SV → SV → Heap → Rs) : SV → SV → SV → SV → SV → SV → Heap → (SV → SV → SV → SV → SV → SV → Heap → Rs) → Rs := fun y11 y12 y13 y14 y15 y16 H17 k18 =>
  o.lss y16 y15 fun x19 =>
  (o.cond x19
  (o.idx 1 y11 y12 fun x20 =>
  o.load 1 false x20 H17 fun x21 =>
  o.idx 1 x21 y16 fun x22 =>
  o.store 1 x22 (.int .i64 (-77)) H17 fun H24 =>
  o.add y16 (.int .i64 1) fun x25 =>
  k18 y11 y12 y13 y14 y15 x25 H24)
  (o.add y14 (.int .i64 1) fun x26 =>
  k6 y11 y13 x26 H17))
def f41_l1 (o : Ops) (K : Nat) (C : CallC) : SV → SV → SV → Heap → (SV → SV → SV → Heap → Rs) → Rs := fun y2 y3 y4 H5 k6 =>
  o.lss y4 y3 fun x7 =>
  (o.cond x7
  (o.idx 1 y2 y4 fun x8 =>
  o.load 1 false x8 H5 fun x9 =>
  o.len x9 fun x10 =>
  (o.loop6 (f41_l3 o K C k6) K y2 y4 y3 y4 x10 (.int .i64 0) H5))
  (some (.tuple [], H5)))
def f41 (o : Ops) (K : Nat) (C : CallC) (a0 : SV) (H : Heap) : Rs :=
  o.len a0 fun x1 =>
  (o.loop3 (f41_l1 o K C) K a0 x1 (.int .i64 0) H)
/-- parquet/gram.each[int64] -/
def f42_l3 (o : Ops) (K : Nat) (C : CallC) (k7 : SV → SV → SV → SV → Heap → Rs) : SV → SV → SV → SV → SV → SV → SV → SV → Heap → (SV → SV → SV → SV → SV → SV → SV → SV → Heap → Rs) → Rs := fun y12 y13 y14 y15 y16 y17 y18 y19 H20 k21 =>
  o.lss y19 y18 fun x22 =>
  (o.cond x22
  (o.idx 1 y17 y19 fun x23 =>
  o.load 1 false x23 H20 fun x24 =>
  o.callv C [y13, y14, y19, x24] H20 fun x25 H26 =>
  o.u_not x25 fun x27 =>
  (o.cond x27
  (some ((.bool false), H26))
  (o.add y19 (.int .i64 1) fun x29 =>
  k21 y12 y13 y14 y15 y16 y17 y18 x29 H26)))
  (o.add y16 (.int .i64 1) fun x30 =>
  k7 y12 y13 y15 x30 H20))
def f42_l1 (o : Ops) (K : Nat) (C : CallC) : SV → SV → SV → SV → Heap → (SV → SV → SV → SV → Heap → Rs) → Rs := fun y2 y3 y4 y5 H6 k7 =>
  o.lss y5 y4 fun x8 =>
  (o.cond x8
  (o.idx 1 y2 y5 fun x9 =>
  o.load 1 false x9 H6 fun x10 =>
  o.len x10 fun x11 =>
  (o.loop8 (f42_l3 o K C k7) K y2 y3 y5 y4 y5 x10 x11 (.int .i64 0) H6))
  (some ((.bool true), H6)))
def f42 (o : Ops) (K : Nat) (C : CallC) (a0 a1 : SV) (H : Heap) : Rs :=
  o.len a0 fun x1 =>
  (o.loop4 (f42_l1 o K C) K a0 a1 x1 (.int .i64 0) H)
/-- parquet/gram.Check$1 -/
def f43 (o : Ops) (K : Nat) (C : CallC) (a0 a1 a2 : SV) (H : Heap) : Rs :=
  o.call (C 44 [a2] H) fun x1 H2 =>
  o.rest x1 fun r3 =>
  some (r3, H2)
/-- parquet/gram.small -/
def f44_j1 (o : Ops) (K : Nat) (C : CallC) (q1_2 : SV) (H1_0 : Heap) : Rs :=
  o.rest q1_2 fun r3 =>
  some (r3, H1_0)
def f44 (o : Ops) (K : Nat) (C : CallC) (a0 : SV) (H : Heap) : Rs :=
  o.geq a0 (.int .i64 (-16384)) fun x1 =>
  (o.guard x1
  (o.leq a0 (.int .i64 16384) fun x2 =>
  (f44_j1 o K C x2 H))
  ((f44_j1 o K C (.bool false) H))
  (none))
/-- parquet/gram.Check$2 -/
def f45 (o : Ops) (K : Nat) (C : CallC) (a0 a1 a2 a3 : SV) (H : Heap) : Rs :=
  o.load 1 false a3 H fun x1 =>
  o.idx 1 x1 a1 fun x2 =>
  o.load 1 false x2 H fun x3 =>
  o.idx 1 x3 a0 fun x4 =>
  o.load 1 false x4 H fun x5 =>
  o.eql a2 x5 fun x6 =>
  o.rest x6 fun r7 =>
  some (r7, H)
/-- parquet/gram.positive -/
def f46_l6 (o : Ops) (K : Nat) (C : CallC) (k36 : SV → SV → SV → SV → SV → SV → SV → Heap → Rs) : SV → SV → SV → SV → SV → SV → SV → SV → Heap → (SV → SV → SV → SV → SV → SV → SV → SV → Heap → Rs) → Rs := fun y39 y40 y41 y42 y43 y44 y45 y46 H47 k48 =>
  o.lss y44 y39 fun x49 =>
  (o.cond x49
  (o.idx 1 y40 y42 fun x50 =>
  o.load 1 false x50 H47 fun x51 =>
  o.idx 2 x51 y42 fun x52 =>
  o.load 2 true x52 H47 fun x53 =>
  o.idx 1 y40 y43 fun x54 =>
  o.load 1 false x54 H47 fun x55 =>
  o.idx 2 x55 y44 fun x56 =>
  o.load 2 true x56 H47 fun x57 =>
  o.call (C 62 [x53, x57] H47) fun x58 H59 =>
  o.ext 0 x58 fun x60 =>
  o.ext 1 x58 fun x61 =>
  o.bstore 0 2 (.box [.bool false, .slice nilSl]) x60 fun c62 =>
  o.idx 1 y40 y43 fun x63 =>
  o.load 1 false x63 H59 fun x64 =>
  o.idx 2 x64 y42 fun x65 =>
  o.load 2 true x65 H59 fun x66 =>
  o.idx 1 y40 y42 fun x67 =>
  o.load 1 false x67 H59 fun x68 =>
  o.idx 2 x68 y44 fun x69 =>
  o.load 2 true x69 H59 fun x70 =>
  o.call (C 62 [x66, x70] H59) fun x71 H72 =>
  o.ext 0 x71 fun x73 =>
  o.ext 1 x71 fun x74 =>
  o.bstore 0 2 (.box [.bool false, .slice nilSl]) x73 fun c75 =>
  o.lload 0 2 true (.box c62) fun x76 =>
  o.lload 0 2 true (.box c75) fun x77 =>
  o.call (C 81 [x76, x77] H72) fun x78 H79 =>
  o.ext 0 x78 fun x80 =>
  o.ext 1 x78 fun x81 =>
  o.bstore 0 2 (.box [.bool false, .slice nilSl]) x80 fun c82 =>
  o.idx 1 y40 y43 fun x83 =>
  o.load 1 false x83 H79 fun x84 =>
  o.lload 0 2 true (.box c82) fun x85 =>
  o.lload 0 2 true y41 fun x86 =>
  o.call (C 82 [x85, x86] H79) fun x87 H88 =>
  o.ext 0 x87 fun x89 =>
  o.ext 1 x87 fun x90 =>
  o.idx 2 x84 y44 fun x91 =>
  o.store 2 x91 x89 H88 fun H93 =>
  (o.same x83 H79 H88 (o.add y44 (.int .i64 1) fun x94 =>
  k48 y39 y40 y41 y42 y43 x94 y45 y46 H93)))
  (o.add y43 (.int .i64 1) fun x95 =>
  k36 y39 y40 y41 y42 x95 y45 y46 H47))
def f46_l4 (o : Ops) (K : Nat) (C : CallC) (k17 : SV → SV → SV → SV → SV → Heap → Rs) : SV → SV → SV → SV → SV → SV → SV → Heap → (SV → SV → SV → SV → SV → SV → SV → Heap → Rs) → Rs := fun y28 y29 y30 y31 y32 y33 y34 H35 k36 =>
  o.lss y32 y28 fun x37 =>
  (o.cond x37
  (o.add y31 (.int .i64 1) fun x38 =>
  (o.loop8 (f46_l6 o K C k36) K y28 y29 y30 y31 y32 x38 y33 y34 H35))
  (o.idx 1 y29 y31 fun x96 =>
  o.load 1 false x96 H35 fun x97 =>
  o.idx 2 x97 y31 fun x98 =>
  o.load 2 true x98 H35 fun x99 =>
  o.bstore 0 2 y30 x99 fun c100 =>
  o.add y34 (.int .i64 1) fun x101 =>
  k17 y28 y29 (.box c100) y33 x101 H35))
def f46_l1 (o : Ops) (K : Nat) (C : CallC) : SV → SV → SV → SV → SV → Heap → (SV → SV → SV → SV → SV → Heap → Rs) → Rs := fun y11 y12 y13 y14 y15 H16 k17 =>
  o.lss y15 y14 fun x18 =>
  (o.cond x18
  (o.idx 1 y12 y15 fun x19 =>
  o.load 1 false x19 H16 fun x20 =>
  o.idx 2 x20 y15 fun x21 =>
  o.load 2 true x21 H16 fun x22 =>
  o.call (C 14 [x22] H16) fun x23 H24 =>
  o.leq x23 (.int .i64 0) fun x25 =>
  (o.cond x25
  (some ((.bool false), H24))
  (o.add y15 (.int .i64 1) fun x27 =>
  (o.loop7 (f46_l4 o K C k17) K y11 y12 y13 y15 x27 y14 y15 H24))))
  (some ((.bool true), H16)))
def f46 (o : Ops) (K : Nat) (C : CallC) (a0 : SV) (H : Heap) : Rs :=
  o.box a0 H fun x1 H2 =>
  o.load 1 false x1 H2 fun x3 =>
  o.len x3 fun x4 =>
  o.mkfn 80 0 [x1] fun x5 =>
  o.call (C 79 [x4, x5] H2) fun x6 H7 =>
  o.call (C 18 [(.int .i64 1)] H7) fun x8 H9 =>
  o.bstore 0 2 (.box [.bool false, .slice nilSl]) x8 fun c10 =>
  (o.loop5 (f46_l1 o K C) K x4 x6 (.box c10) x4 (.int .i64 0) H9)
/-- parquet/mat.shaped -/
def f47_j3 (o : Ops) (K : Nat) (C : CallC) (k7 : SV → SV → SV → SV → Heap → Rs) (q3_0 q3_5 q3_6 q3_7 q3_28 : SV) (H3_0 : Heap) : Rs :=
  (o.cond q3_28
  (some ((.bool false), H3_0))
  (o.add q3_7 (.int .i64 1) fun x14 =>
  k7 q3_0 q3_5 q3_6 x14 H3_0))
def f47_l1 (o : Ops) (K : Nat) (C : CallC) : SV → SV → SV → SV → Heap → (SV → SV → SV → SV → Heap → Rs) → Rs := fun y2 y3 y4 y5 H6 k7 =>
  o.lss y5 y4 fun x8 =>
  (o.cond x8
  (o.idx 1 y3 y5 fun x9 =>
  o.load 1 false x9 H6 fun x10 =>
  o.len y2 fun x11 =>
  o.gtr x11 (.int .i64 16) fun x12 =>
  (o.guard x12
  ((f47_j3 o K C k7 y2 y3 y4 y5 (.bool true) H6))
  (o.lss x10 (.int .i64 1) fun x15 =>
  (o.guard x15
  ((f47_j3 o K C k7 y2 y3 y4 y5 (.bool true) H6))
  (o.gtr x10 (.int .i64 16) fun x16 =>
  (o.guard x16
  ((f47_j3 o K C k7 y2 y3 y4 y5 (.bool true) H6))
  (o.idx 1 y2 (.int .i64 0) fun x17 =>
  o.load 1 false x17 H6 fun x18 =>
  o.neq x10 x18 fun x19 =>
  (f47_j3 o K C k7 y2 y3 y4 y5 x19 H6))
  (none)))
  (none)))
  (none)))
  (some ((.bool true), H6)))
def f47 (o : Ops) (K : Nat) (C : CallC) (a0 : SV) (H : Heap) : Rs :=
  o.len a0 fun x1 =>
  (o.loop4 (f47_l1 o K C) K a0 a0 x1 (.int .i64 0) H)
/-- parquet/mat.lengths[int64] -/
def f48_l1 (o : Ops) (K : Nat) (C : CallC) : SV → SV → SV → SV → Heap → (SV → SV → SV → SV → Heap → Rs) → Rs := fun y2 y3 y4 y5 H6 k7 =>
  o.lss y5 y4 fun x8 =>
  (o.cond x8
  (o.idx 1 y2 y5 fun x9 =>
  o.load 1 false x9 H6 fun x10 =>
  o.len x10 fun x11 =>
  o.hbuild 1 [.int .i64 0] [(0, 1)] [x11] H6 fun x12 H13 =>
  o.append 1 8 y3 x12 H13 fun x14 H15 =>
  o.add y5 (.int .i64 1) fun x16 =>
  k7 y2 x14 y4 x16 H15)
  (o.rest y3 fun r17 =>
  some (r17, H6)))
def f48 (o : Ops) (K : Nat) (C : CallC) (a0 : SV) (H : Heap) : Rs :=
  o.len a0 fun x1 =>
  (o.loop4 (f48_l1 o K C) K a0 (.slice nilSl) x1 (.int .i64 0) H)
/-- parquet/mat.made -/
def f49_l3 (o : Ops) (K : Nat) (C : CallC) (k8 : SV → SV → SV → SV → SV → SV → Heap → Rs) : SV → SV → SV → SV → SV → SV → SV → SV → SV → SV → Heap → (SV → SV → SV → SV → SV → SV → SV → SV → SV → SV → Heap → Rs) → Rs := fun y13 y14 y15 y16 y17 y18 y19 y20 y21 y22 H23 k24 =>
  o.lss y22 y21 fun x25 =>
  (o.cond x25
  (o.callv C [y14, y17, y22] H23 fun x26 H27 =>
  o.idx 2 y18 y22 fun x28 =>
  o.store 2 x28 x26 H27 fun H30 =>
  o.add y22 (.int .i64 1) fun x31 =>
  k24 y13 y14 y15 y16 y17 y18 y19 y20 y21 x31 H30)
  (o.hbuild 1 [.slice nilSl] [(0, 1)] [y18] H23 fun x32 H33 =>
  o.append 1 24 y16 x32 H33 fun x34 H35 =>
  o.add y20 (.int .i64 1) fun x36 =>
  k8 y13 y14 y15 x34 y19 x36 H35))
def f49_l1 (o : Ops) (K : Nat) (C : CallC) : SV → SV → SV → SV → SV → SV → Heap → (SV → SV → SV → SV → SV → SV → Heap → Rs) → Rs := fun y1 y2 y3 y4 y5 y6 H7 k8 =>
  o.lss y6 y5 fun x9 =>
  (o.cond x9
  (o.make 2 32 [.bool false, .slice nilSl] y1 y1 H7 fun x10 H11 =>
  o.len x10 fun x12 =>
  (o.loop10 (f49_l3 o K C k8) K y1 y2 y3 y4 y6 x10 y5 y6 x12 (.int .i64 0) H11))
  (o.build [.slice nilSl] [(0, 1)] [y4] fun x37 =>
  o.bstore 0 1 y3 x37 fun c38 =>
  o.resc 1 true (.box c38) fun r39 =>
  some (r39, H7)))
def f49 (o : Ops) (K : Nat) (C : CallC) (a0 a1 a2 : SV) (H : Heap) : Rs :=
  (o.loop6 (f49_l1 o K C) K a1 a2 (.box [.slice nilSl]) (.slice nilSl) a0 (.int .i64 0) H)
/-- parquet/mat.Of$1 -/
def f50 (o : Ops) (K : Nat) (C : CallC) (a0 a1 a2 : SV) (H : Heap) : Rs :=
  o.load 1 false a2 H fun x1 =>
  o.idx 1 x1 a0 fun x2 =>
  o.load 1 false x2 H fun x3 =>
  o.idx 1 x3 a1 fun x4 =>
  o.load 1 false x4 H fun x5 =>
  o.call (C 18 [x5] H) fun x6 H7 =>
  o.bstore 0 2 (.box [.bool false, .slice nilSl]) x6 fun c8 =>
  o.resc 2 true (.box c8) fun r9 =>
  some (r9, H7)
/-- (parquet/mat.Mat).square -/
def f51 (o : Ops) (K : Nat) (C : CallC) (a0 : SV) (H : Heap) : Rs :=
  o.bbox a0 fun c1 =>
  o.lload 0 1 true (.box c1) fun x2 =>
  o.call (C 57 [x2] H) fun x3 H4 =>
  o.ext 0 x3 fun x5 =>
  o.ext 1 x3 fun x6 =>
  o.neq x5 x6 fun x7 =>
  (o.cond x7
  (some ((.int .i64 5), H4))
  (o.lload 0 1 true (.box c1) fun x9 =>
  o.call (C 83 [x9] H4) fun x10 H11 =>
  (o.cond x10
  (some ((.int .i64 3), H11))
  (some ((.int .i64 0), H11)))))
/-- (parquet/mat.Mat).steps -/
def f52_j9 (o : Ops) (K : Nat) (C : CallC) (k24 : SV → SV → SV → SV → SV → SV → SV → SV → Heap → Rs) (q9_3 q9_4 q9_5 q9_6 q9_7 q9_8 q9_9 q9_10 : SV) (H9_0 : Heap) : Rs :=
  o.add q9_10 (.int .i64 1) fun x48 =>
  k24 q9_3 q9_4 q9_5 q9_6 q9_7 q9_8 q9_9 x48 H9_0
def f52_l14 (o : Ops) (K : Nat) (C : CallC) (k72 : SV → SV → SV → SV → SV → SV → SV → SV → SV → Heap → Rs) : SV → SV → SV → SV → SV → SV → SV → SV → SV → SV → Heap → (SV → SV → SV → SV → SV → SV → SV → SV → SV → SV → Heap → Rs) → Rs := fun y75 y76 y77 y78 y79 y80 y81 y82 y83 y84 H85 k86 =>
  o.lss y84 y77 fun x87 =>
  (o.cond x87
  (o.idx 1 y78 y81 fun x88 =>
  o.load 1 false x88 H85 fun x89 =>
  o.idx 2 x89 y82 fun x90 =>
  o.load 2 true x90 H85 fun x91 =>
  o.idx 1 y78 y83 fun x92 =>
  o.load 1 false x92 H85 fun x93 =>
  o.idx 2 x93 y84 fun x94 =>
  o.load 2 true x94 H85 fun x95 =>
  o.call (C 62 [x91, x95] H85) fun x96 H97 =>
  o.ext 0 x96 fun x98 =>
  o.ext 1 x96 fun x99 =>
  o.bstore 0 2 (.box [.bool false, .slice nilSl]) x98 fun c100 =>
  o.idx 1 y78 y83 fun x101 =>
  o.load 1 false x101 H97 fun x102 =>
  o.idx 2 x102 y82 fun x103 =>
  o.load 2 true x103 H97 fun x104 =>
  o.idx 1 y78 y81 fun x105 =>
  o.load 1 false x105 H97 fun x106 =>
  o.idx 2 x106 y84 fun x107 =>
  o.load 2 true x107 H97 fun x108 =>
  o.call (C 62 [x104, x108] H97) fun x109 H110 =>
  o.ext 0 x109 fun x111 =>
  o.ext 1 x109 fun x112 =>
  o.bstore 0 2 (.box [.bool false, .slice nilSl]) x111 fun c113 =>
  o.lload 0 2 true (.box c100) fun x114 =>
  o.lload 0 2 true (.box c113) fun x115 =>
  o.call (C 81 [x114, x115] H110) fun x116 H117 =>
  o.ext 0 x116 fun x118 =>
  o.ext 1 x116 fun x119 =>
  o.bstore 0 2 (.box [.bool false, .slice nilSl]) x118 fun c120 =>
  o.idx 1 y78 y83 fun x121 =>
  o.load 1 false x121 H117 fun x122 =>
  o.lload 0 2 true (.box c120) fun x123 =>
  o.lload 0 2 true y79 fun x124 =>
  o.call (C 82 [x123, x124] H117) fun x125 H126 =>
  o.ext 0 x125 fun x127 =>
  o.ext 1 x125 fun x128 =>
  o.idx 2 x122 y84 fun x129 =>
  o.store 2 x129 x127 H126 fun H131 =>
  (o.same x121 H117 H126 (o.add y84 (.int .i64 1) fun x132 =>
  k86 y75 y76 y77 y78 y79 y80 y81 y82 y83 x132 H131)))
  (o.idx 1 y78 y83 fun x133 =>
  o.load 1 false x133 H85 fun x134 =>
  o.build [.bool false, .slice nilSl] [] [] fun x135 =>
  o.idx 2 x134 y82 fun x136 =>
  o.store 2 x136 x135 H85 fun H138 =>
  o.add y83 (.int .i64 1) fun x139 =>
  k72 y75 y76 y77 y78 y79 y80 y81 y82 x139 H138))
def f52_l12 (o : Ops) (K : Nat) (C : CallC) (k24 : SV → SV → SV → SV → SV → SV → SV → SV → Heap → Rs) : SV → SV → SV → SV → SV → SV → SV → SV → SV → Heap → (SV → SV → SV → SV → SV → SV → SV → SV → SV → Heap → Rs) → Rs := fun y62 y63 y64 y65 y66 y67 y68 y69 y70 H71 k72 =>
  o.lss y70 y63 fun x73 =>
  (o.cond x73
  (o.add y69 (.int .i64 1) fun x74 =>
  (o.loop10 (f52_l14 o K C k72) K y62 y63 y64 y65 y66 y67 y68 y69 y70 x74 H71))
  (o.idx 1 y65 y68 fun x140 =>
  o.load 1 false x140 H71 fun x141 =>
  o.idx 2 x141 y69 fun x142 =>
  o.load 2 true x142 H71 fun x143 =>
  o.bstore 0 2 y66 x143 fun c144 =>
  o.add y68 (.int .i64 1) fun x145 =>
  (f52_j9 o K C k24 y62 y63 y64 y65 (.box c144) y67 x145 y69 H71)))
def f52_j11 (o : Ops) (K : Nat) (C : CallC) (k24 : SV → SV → SV → SV → SV → SV → SV → SV → Heap → Rs) (q11_3 q11_4 q11_5 q11_6 q11_7 q11_8 q11_9 q11_10 : SV) (H11_0 : Heap) : Rs :=
  o.add q11_9 (.int .i64 1) fun x61 =>
  (o.loop9 (f52_l12 o K C k24) K q11_3 q11_4 q11_5 q11_6 q11_7 q11_8 q11_9 q11_10 x61 H11_0)
def f52_j5 (o : Ops) (K : Nat) (C : CallC) (k24 : SV → SV → SV → SV → SV → SV → SV → SV → Heap → Rs) (k37 : SV → SV → SV → SV → SV → SV → SV → SV → SV → Heap → Rs) (q5_3 q5_4 q5_5 q5_6 q5_7 q5_8 q5_9 q5_10 q5_11 q5_56 : SV) (H5_0 : Heap) : Rs :=
  (o.cond q5_56
  (o.add q5_11 (.int .i64 1) fun x46 =>
  k37 q5_3 q5_4 q5_5 q5_6 q5_7 q5_8 q5_9 q5_10 x46 H5_0)
  (o.eql q5_11 q5_4 fun x47 =>
  (o.cond x47
  ((f52_j9 o K C k24 q5_3 q5_4 q5_5 q5_6 q5_7 q5_8 q5_9 q5_10 H5_0))
  (o.neq q5_11 q5_9 fun x49 =>
  (o.cond x49
  (o.idx 1 q5_6 q5_9 fun x50 =>
  o.load 1 false x50 H5_0 fun x51 =>
  o.idx 1 q5_6 q5_11 fun x52 =>
  o.load 1 false x52 H5_0 fun x53 =>
  o.idx 1 q5_6 q5_11 fun x54 =>
  o.store 1 x54 x51 H5_0 fun H56 =>
  o.idx 1 q5_6 q5_9 fun x57 =>
  o.store 1 x57 x53 H56 fun H59 =>
  o.u_neg q5_8 fun x60 =>
  (f52_j11 o K C k24 q5_3 q5_4 q5_5 q5_6 q5_7 x60 q5_9 q5_10 H59))
  ((f52_j11 o K C k24 q5_3 q5_4 q5_5 q5_6 q5_7 q5_8 q5_9 q5_10 H5_0)))))))
def f52_l4 (o : Ops) (K : Nat) (C : CallC) (k24 : SV → SV → SV → SV → SV → SV → SV → SV → Heap → Rs) : SV → SV → SV → SV → SV → SV → SV → SV → SV → Heap → (SV → SV → SV → SV → SV → SV → SV → SV → SV → Heap → Rs) → Rs := fun y27 y28 y29 y30 y31 y32 y33 y34 y35 H36 k37 =>
  o.lss y35 y28 fun x38 =>
  (o.guard x38
  (o.idx 1 y30 y35 fun x39 =>
  o.load 1 false x39 H36 fun x40 =>
  o.idx 2 x40 y34 fun x41 =>
  o.load 2 true x41 H36 fun x42 =>
  o.call (C 14 [x42] H36) fun x43 H44 =>
  o.eql x43 (.int .i64 0) fun x45 =>
  (f52_j5 o K C k24 k37 y27 y28 y29 y30 y31 y32 y33 y34 y35 x45 H44))
  ((f52_j5 o K C k24 k37 y27 y28 y29 y30 y31 y32 y33 y34 y35 (.bool false) H36))
  (none))
def f52_j2 (o : Ops) (K : Nat) (C : CallC) (k24 : SV → SV → SV → SV → SV → SV → SV → SV → Heap → Rs) (q2_3 q2_4 q2_5 q2_6 q2_7 q2_8 q2_9 q2_10 q2_39 : SV) (H2_0 : Heap) : Rs :=
  (o.cond q2_39
  ((o.loop9 (f52_l4 o K C k24) K q2_3 q2_4 q2_5 q2_6 q2_7 q2_8 q2_9 q2_10 q2_9 H2_0))
  (o.lss q2_9 q2_4 fun x146 =>
  (o.cond x146
  (o.build [.bool false, .slice nilSl] [] [] fun x147 =>
  o.bstore 0 2 q2_3 x147 fun c148 =>
  o.rest q2_9 fun r149 =>
  o.resc 2 true (.box c148) fun r150 =>
  some (.tuple [r149, r150], H2_0))
  (o.lss q2_8 (.int .i64 0) fun x151 =>
  (o.cond x151
  (o.lload 0 2 true q2_7 fun x152 =>
  o.call (C 85 [x152] H2_0) fun x153 H154 =>
  o.bstore 0 2 q2_3 x153 fun c155 =>
  o.rest q2_9 fun r156 =>
  o.resc 2 true (.box c155) fun r157 =>
  some (.tuple [r156, r157], H154))
  (o.lload 0 2 true q2_7 fun x158 =>
  o.bstore 0 2 q2_3 x158 fun c159 =>
  o.rest q2_9 fun r160 =>
  o.resc 2 true (.box c159) fun r161 =>
  some (.tuple [r160, r161], H2_0)))))))
def f52_l1 (o : Ops) (K : Nat) (C : CallC) : SV → SV → SV → SV → SV → SV → SV → SV → Heap → (SV → SV → SV → SV → SV → SV → SV → SV → Heap → Rs) → Rs := fun y15 y16 y17 y18 y19 y20 y21 y22 H23 k24 =>
  o.lss y22 y17 fun x25 =>
  (o.guard x25
  (o.lss y21 y16 fun x26 =>
  (f52_j2 o K C k24 y15 y16 y17 y18 y19 y20 y21 y22 x26 H23))
  ((f52_j2 o K C k24 y15 y16 y17 y18 y19 y20 y21 y22 (.bool false) H23))
  (none))
def f52 (o : Ops) (K : Nat) (C : CallC) (a0 : SV) (H : Heap) : Rs :=
  o.bbox a0 fun c1 =>
  o.lload 0 1 true (.box c1) fun x2 =>
  o.call (C 57 [x2] H) fun x3 H4 =>
  o.ext 0 x3 fun x5 =>
  o.ext 1 x3 fun x6 =>
  o.lload 0 1 true (.box c1) fun x7 =>
  o.mkfn 84 1 [x7] fun x8 =>
  o.call (C 49 [x5, x6, x8] H4) fun x9 H10 =>
  o.fieldv 0 1 false x9 fun x11 =>
  o.call (C 18 [(.int .i64 1)] H10) fun x12 H13 =>
  o.bstore 0 2 (.box [.bool false, .slice nilSl]) x12 fun c14 =>
  (o.loop8 (f52_l1 o K C) K (.box [.bool false, .slice nilSl]) x5 x6 x11 (.box c14) (.int .i64 1) (.int .i64 0) (.int .i64 0) H13)
/-- parquet/gram.dot -/
def f53_j1 (o : Ops) (K : Nat) (C : CallC) (q1_0 q1_4 q1_5 q1_22 : SV) (H1_0 : Heap) : Rs :=
  (o.cond q1_22
  (some (.tuple [(.int .i64 0), (.int .i64 5)], H1_0))
  (o.build [.bool false, .slice nilSl] [] [] fun x11 =>
  o.alloc [.bool false, .slice nilSl] H1_0 fun x12 H13 =>
  o.store 2 x12 x11 H13 fun H15 =>
  o.mkfn 86 0 [q1_4, q1_5, x12] fun x16 =>
  o.call (C 42 [q1_0, x16] H15) fun x17 H18 =>
  o.load 2 true x12 H18 fun x19 =>
  o.call (C 64 [x19] H18) fun x20 H21 =>
  o.ext 0 x20 fun x22 =>
  o.ext 1 x20 fun x23 =>
  o.u_not x23 fun x24 =>
  (o.cond x24
  (some (.tuple [(.int .i64 0), (.int .i64 3)], H21))
  (o.rest x22 fun r27 =>
  some (.tuple [r27, (.int .i64 0)], H21)))))
def f53 (o : Ops) (K : Nat) (C : CallC) (a0 a1 a2 : SV) (H : Heap) : Rs :=
  o.box a1 H fun x1 H2 =>
  o.box a2 H2 fun x3 H4 =>
  o.load 1 false x1 H4 fun x5 =>
  o.len x5 fun x6 =>
  o.len a0 fun x7 =>
  o.neq x6 x7 fun x8 =>
  (o.guard x8
  ((f53_j1 o K C a0 x1 x3 (.bool true) H4))
  (o.load 1 false x3 H4 fun x29 =>
  o.len x29 fun x30 =>
  o.len a0 fun x31 =>
  o.neq x30 x31 fun x32 =>
  (f53_j1 o K C a0 x1 x3 x32 H4))
  (none))
/-- parquet/nat.product -/
def f54_l3 (o : Ops) (K : Nat) (C : CallC) (k22 : SV → SV → SV → SV → SV → SV → Heap → Rs) : SV → SV → SV → SV → SV → SV → SV → SV → SV → SV → SV → SV → Heap → (SV → SV → SV → SV → SV → SV → SV → SV → SV → SV → SV → SV → Heap → Rs) → Rs := fun y29 y30 y31 y32 y33 y34 y35 y36 y37 y38 y39 y40 H41 k42 =>
  o.lss y40 y39 fun x43 =>
  (o.cond x43
  (o.idx 1 y38 y40 fun x44 =>
  o.load 1 false x44 H41 fun x45 =>
  o.conv .u64 y33 fun x46 =>
  o.conv .u64 x45 fun x47 =>
  o.mul x46 x47 fun x48 =>
  o.add y32 y40 fun x49 =>
  o.idx 1 y31 x49 fun x50 =>
  o.load 1 false x50 H41 fun x51 =>
  o.conv .u64 x51 fun x52 =>
  o.add x48 x52 fun x53 =>
  o.add y34 x53 fun x54 =>
  o.add y32 y40 fun x55 =>
  o.conv .u32 x54 fun x56 =>
  o.idx 1 y31 x55 fun x57 =>
  o.store 1 x57 x56 H41 fun H59 =>
  o.shr x54 (.int .u64 32) fun x60 =>
  o.add y40 (.int .i64 1) fun x61 =>
  k42 y29 y30 y31 y32 y33 x60 y35 y36 y37 y38 y39 x61 H59)
  (o.lfld 0 y29 fun x62 =>
  o.lloadp 1 false y29 x62 fun x63 =>
  o.len x63 fun x64 =>
  o.add y32 x64 fun x65 =>
  o.conv .u32 y34 fun x66 =>
  o.idx 1 y31 x65 fun x67 =>
  o.store 1 x67 x66 H41 fun H69 =>
  o.add y37 (.int .i64 1) fun x70 =>
  k22 y29 y30 y31 y35 y36 x70 H69))
def f54_l1 (o : Ops) (K : Nat) (C : CallC) : SV → SV → SV → SV → SV → SV → Heap → (SV → SV → SV → SV → SV → SV → Heap → Rs) → Rs := fun y15 y16 y17 y18 y19 y20 H21 k22 =>
  o.lss y20 y19 fun x23 =>
  (o.cond x23
  (o.idx 1 y18 y20 fun x24 =>
  o.load 1 false x24 H21 fun x25 =>
  o.lfld 0 y15 fun x26 =>
  o.lloadp 1 false y15 x26 fun x27 =>
  o.len x27 fun x28 =>
  (o.loop12 (f54_l3 o K C k22) K y15 y16 y17 y20 x25 (.int .u64 0) y18 y19 y20 x27 x28 (.int .i64 0) H21))
  (o.call (C 73 [y17] H21) fun x71 H72 =>
  o.bstore 0 1 y16 x71 fun c73 =>
  o.resc 1 true (.box c73) fun r74 =>
  some (r74, H72)))
def f54 (o : Ops) (K : Nat) (C : CallC) (a0 a1 : SV) (H : Heap) : Rs :=
  o.bbox a0 fun c1 =>
  o.bbox a1 fun c2 =>
  o.lfld 0 (.box c1) fun x3 =>
  o.lloadp 1 false (.box c1) x3 fun x4 =>
  o.len x4 fun x5 =>
  o.lfld 0 (.box c2) fun x6 =>
  o.lloadp 1 false (.box c2) x6 fun x7 =>
  o.len x7 fun x8 =>
  o.add x5 x8 fun x9 =>
  o.make 1 4 [.int .u32 0] x9 x9 H fun x10 H11 =>
  o.lfld 0 (.box c1) fun x12 =>
  o.lloadp 1 false (.box c1) x12 fun x13 =>
  o.len x13 fun x14 =>
  (o.loop6 (f54_l1 o K C) K (.box c2) (.box [.slice nilSl]) x10 x13 x14 (.int .i64 0) H11)
/-- (parquet/nat.Nat).fits -/
def f55 (o : Ops) (K : Nat) (C : CallC) (a0 : SV) (H : Heap) : Rs :=
  o.bbox a0 fun c1 =>
  o.lload 0 1 true (.box c1) fun x2 =>
  o.call (C 32 [x2] H) fun x3 H4 =>
  o.gtr x3 (.int .i64 4096) fun x5 =>
  (o.cond x5
  (o.build [.slice nilSl] [] [] fun x6 =>
  o.bstore 0 1 (.box [.slice nilSl]) x6 fun c7 =>
  o.resc 1 true (.box c7) fun r8 =>
  some (.tuple [r8, (.int .i64 3)], H4))
  (o.lload 0 1 true (.box c1) fun x10 =>
  o.bstore 0 1 (.box [.slice nilSl]) x10 fun c11 =>
  o.resc 1 true (.box c11) fun r12 =>
  some (.tuple [r12, (.int .i64 0)], H4)))
/-- parquet/nat.Of -/
def f56 (o : Ops) (K : Nat) (C : CallC) (a0 : SV) (H : Heap) : Rs :=
  o.conv .u32 a0 fun x1 =>
  o.shr a0 (.int .u64 32) fun x2 =>
  o.conv .u32 x2 fun x3 =>
  o.hbuild 1 [.int .u32 0, .int .u32 0] [(0, 1), (1, 1)] [x1, x3] H fun x4 H5 =>
  o.call (C 73 [x4] H5) fun x6 H7 =>
  o.bstore 0 1 (.box [.slice nilSl]) x6 fun c8 =>
  o.resc 1 true (.box c8) fun r9 =>
  some (r9, H7)
/-- (parquet/mat.Mat).Size -/
def f57 (o : Ops) (K : Nat) (C : CallC) (a0 : SV) (H : Heap) : Rs :=
  o.bbox a0 fun c1 =>
  o.lfld 0 (.box c1) fun x2 =>
  o.lloadp 1 false (.box c1) x2 fun x3 =>
  o.len x3 fun x4 =>
  o.eql x4 (.int .i64 0) fun x5 =>
  (o.cond x5
  (some (.tuple [(.int .i64 0), (.int .i64 0)], H))
  (o.lfld 0 (.box c1) fun x8 =>
  o.lloadp 1 false (.box c1) x8 fun x9 =>
  o.len x9 fun x10 =>
  o.lfld 0 (.box c1) fun x11 =>
  o.lloadp 1 false (.box c1) x11 fun x12 =>
  o.idx 1 x12 (.int .i64 0) fun x13 =>
  o.load 1 false x13 H fun x14 =>
  o.len x14 fun x15 =>
  o.rest x10 fun r16 =>
  o.rest x15 fun r17 =>
  some (.tuple [r16, r17], H)))
/-- (parquet/mat.Mat).Transpose -/
def f58 (o : Ops) (K : Nat) (C : CallC) (a0 : SV) (H : Heap) : Rs :=
  o.box a0 H fun x1 H2 =>
  o.load 1 true x1 H2 fun x3 =>
  o.call (C 57 [x3] H2) fun x4 H5 =>
  o.ext 0 x4 fun x6 =>
  o.ext 1 x4 fun x7 =>
  o.mkfn 87 0 [x1] fun x8 =>
  o.call (C 49 [x7, x6, x8] H5) fun x9 H10 =>
  o.bstore 0 1 (.box [.slice nilSl]) x9 fun c11 =>
  o.resc 1 true (.box c11) fun r12 =>
  some (r12, H10)
/-- parquet/gram.Change$1 -/
def f59 (o : Ops) (K : Nat) (C : CallC) (a0 a1 a2 : SV) (H : Heap) : Rs :=
  o.call (C 44 [a2] H) fun x1 H2 =>
  o.rest x1 fun r3 =>
  some (r3, H2)
/-- parquet/mat.whole -/
def f60 (o : Ops) (K : Nat) (C : CallC) (a0 a1 a2 : SV) (H : Heap) : Rs :=
  o.box a2 H fun x1 H2 =>
  o.alloc [.int .i64 0] H2 fun x3 H4 =>
  o.store 1 x3 (.int .i64 0) H4 fun H6 =>
  o.mkfn 88 0 [x3, x1] fun x7 =>
  o.call (C 49 [a0, a1, x7] H6) fun x8 H9 =>
  o.bstore 0 1 (.box [.slice nilSl]) x8 fun c10 =>
  o.load 1 false x3 H9 fun x11 =>
  o.neq x11 (.int .i64 0) fun x12 =>
  (o.cond x12
  (o.build [.slice nilSl] [] [] fun x13 =>
  o.load 1 false x3 H9 fun x14 =>
  o.bstore 0 1 (.box [.slice nilSl]) x13 fun c15 =>
  o.resc 1 true (.box c15) fun r16 =>
  o.rest x14 fun r17 =>
  some (.tuple [r16, r17], H9))
  (o.lload 0 1 true (.box c10) fun x18 =>
  o.bstore 0 1 (.box [.slice nilSl]) x18 fun c19 =>
  o.resc 1 true (.box c19) fun r20 =>
  some (.tuple [r20, (.int .i64 0)], H9)))
/-- parquet/mat.Mul$1 -/
def f61_l1 (o : Ops) (K : Nat) (C : CallC) : SV → SV → SV → SV → SV → SV → SV → SV → Heap → (SV → SV → SV → SV → SV → SV → SV → SV → Heap → Rs) → Rs := fun y4 y5 y6 y7 y8 y9 y10 y11 H12 k13 =>
  o.lss y11 y10 fun x14 =>
  (o.cond x14
  (o.fld 0 y6 fun x15 =>
  o.load 1 false x15 H12 fun x16 =>
  o.idx 1 x16 y4 fun x17 =>
  o.load 1 false x17 H12 fun x18 =>
  o.idx 2 x18 y11 fun x19 =>
  o.load 2 true x19 H12 fun x20 =>
  o.fld 0 y7 fun x21 =>
  o.load 1 false x21 H12 fun x22 =>
  o.idx 1 x22 y11 fun x23 =>
  o.load 1 false x23 H12 fun x24 =>
  o.idx 2 x24 y5 fun x25 =>
  o.load 2 true x25 H12 fun x26 =>
  o.call (C 62 [x20, x26] H12) fun x27 H28 =>
  o.ext 0 x27 fun x29 =>
  o.ext 1 x27 fun x30 =>
  o.bstore 0 2 (.box [.bool false, .slice nilSl]) x29 fun c31 =>
  o.neq x30 (.int .i64 0) fun x32 =>
  (o.cond x32
  (o.lload 0 2 true y9 fun x33 =>
  o.bstore 0 2 y8 x33 fun c34 =>
  o.resc 2 true (.box c34) fun r35 =>
  o.rest x30 fun r36 =>
  some (.tuple [r35, r36], H28))
  (o.lload 0 2 true y9 fun x37 =>
  o.lload 0 2 true (.box c31) fun x38 =>
  o.call (C 63 [x37, x38] H28) fun x39 H40 =>
  o.ext 0 x39 fun x41 =>
  o.ext 1 x39 fun x42 =>
  o.bstore 0 2 y9 x41 fun c43 =>
  o.neq x42 (.int .i64 0) fun x44 =>
  (o.cond x44
  (o.lload 0 2 true (.box c43) fun x45 =>
  o.bstore 0 2 y8 x45 fun c46 =>
  o.resc 2 true (.box c46) fun r47 =>
  o.rest x42 fun r48 =>
  some (.tuple [r47, r48], H40))
  (o.add y11 (.int .i64 1) fun x49 =>
  k13 y4 y5 y6 y7 y8 (.box c43) y10 x49 H40)))))
  (o.lload 0 2 true y9 fun x50 =>
  o.bstore 0 2 y8 x50 fun c51 =>
  o.resc 2 true (.box c51) fun r52 =>
  some (.tuple [r52, (.int .i64 0)], H12)))
def f61 (o : Ops) (K : Nat) (C : CallC) (a0 a1 a2 a3 a4 : SV) (H : Heap) : Rs :=
  o.build [.bool false, .slice nilSl] [] [] fun x1 =>
  o.bstore 0 2 (.box [.bool false, .slice nilSl]) x1 fun c2 =>
  o.load 1 false a2 H fun x3 =>
  (o.loop8 (f61_l1 o K C) K a0 a1 a3 a4 (.box [.bool false, .slice nilSl]) (.box c2) x3 (.int .i64 0) H)
/-- parquet/zint.Mul -/
def f62 (o : Ops) (K : Nat) (C : CallC) (a0 a1 : SV) (H : Heap) : Rs :=
  o.bbox a0 fun c1 =>
  o.bbox a1 fun c2 =>
  o.lfld 1 (.box c1) fun x3 =>
  o.lloadp 1 true (.box c1) x3 fun x4 =>
  o.lfld 1 (.box c2) fun x5 =>
  o.lloadp 1 true (.box c2) x5 fun x6 =>
  o.call (C 17 [x4, x6] H) fun x7 H8 =>
  o.ext 0 x7 fun x9 =>
  o.ext 1 x7 fun x10 =>
  o.bstore 0 1 (.box [.slice nilSl]) x9 fun c11 =>
  o.lfld 0 (.box c1) fun x12 =>
  o.lloadp 1 false (.box c1) x12 fun x13 =>
  o.lfld 0 (.box c2) fun x14 =>
  o.lloadp 1 false (.box c2) x14 fun x15 =>
  o.b_neq x13 x15 fun x16 =>
  o.lload 0 1 true (.box c11) fun x17 =>
  o.call (C 89 [x16, x17] H8) fun x18 H19 =>
  o.bstore 0 2 (.box [.bool false, .slice nilSl]) x18 fun c20 =>
  o.resc 2 true (.box c20) fun r21 =>
  o.rest x10 fun r22 =>
  some (.tuple [r21, r22], H19)
/-- parquet/zint.Add -/
def f63_j2 (o : Ops) (K : Nat) (C : CallC) (q2_2 q2_3 q2_4 : SV) (H2_0 : Heap) : Rs :=
  o.lfld 1 q2_2 fun x36 =>
  o.lloadp 1 true q2_2 x36 fun x37 =>
  o.lfld 1 q2_3 fun x38 =>
  o.lloadp 1 true q2_3 x38 fun x39 =>
  o.call (C 91 [x37, x39] H2_0) fun x40 H41 =>
  o.ext 0 x40 fun x42 =>
  o.ext 1 x40 fun x43 =>
  o.bstore 0 1 (.box [.slice nilSl]) x42 fun c44 =>
  o.lfld 0 q2_2 fun x45 =>
  o.lloadp 1 false q2_2 x45 fun x46 =>
  o.lload 0 1 true (.box c44) fun x47 =>
  o.call (C 89 [x46, x47] H41) fun x48 H49 =>
  o.bstore 0 2 q2_4 x48 fun c50 =>
  o.resc 2 true (.box c50) fun r51 =>
  o.rest x43 fun r52 =>
  some (.tuple [r51, r52], H49)
def f63 (o : Ops) (K : Nat) (C : CallC) (a0 a1 : SV) (H : Heap) : Rs :=
  o.bbox a0 fun c1 =>
  o.bbox a1 fun c2 =>
  o.lfld 0 (.box c1) fun x3 =>
  o.lloadp 1 false (.box c1) x3 fun x4 =>
  o.lfld 0 (.box c2) fun x5 =>
  o.lloadp 1 false (.box c2) x5 fun x6 =>
  o.b_eql x4 x6 fun x7 =>
  (o.cond x7
  (o.lfld 1 (.box c1) fun x8 =>
  o.lloadp 1 true (.box c1) x8 fun x9 =>
  o.lfld 1 (.box c2) fun x10 =>
  o.lloadp 1 true (.box c2) x10 fun x11 =>
  o.call (C 90 [x9, x11] H) fun x12 H13 =>
  o.ext 0 x12 fun x14 =>
  o.ext 1 x12 fun x15 =>
  o.bstore 0 1 (.box [.slice nilSl]) x14 fun c16 =>
  o.lfld 0 (.box c1) fun x17 =>
  o.lloadp 1 false (.box c1) x17 fun x18 =>
  o.lload 0 1 true (.box c16) fun x19 =>
  o.call (C 89 [x18, x19] H13) fun x20 H21 =>
  o.bstore 0 2 (.box [.bool false, .slice nilSl]) x20 fun c22 =>
  o.resc 2 true (.box c22) fun r23 =>
  o.rest x15 fun r24 =>
  some (.tuple [r23, r24], H21))
  (o.lfld 1 (.box c1) fun x25 =>
  o.lloadp 1 true (.box c1) x25 fun x26 =>
  o.lfld 1 (.box c2) fun x27 =>
  o.lloadp 1 true (.box c2) x27 fun x28 =>
  o.call (C 20 [x26, x28] H) fun x29 H30 =>
  o.lss x29 (.int .i64 0) fun x31 =>
  (o.cond x31
  (o.lload 0 2 true (.box c2) fun x32 =>
  o.lload 0 2 true (.box c1) fun x33 =>
  o.bstore 0 2 (.box c1) x32 fun c34 =>
  o.bstore 0 2 (.box c2) x33 fun c35 =>
  (f63_j2 o K C (.box c34) (.box c35) (.box [.bool false, .slice nilSl]) H30))
  ((f63_j2 o K C (.box c1) (.box c2) (.box [.bool false, .slice nilSl]) H30)))))
/-- (parquet/zint.Int).Int64 -/
def f64_j1 (o : Ops) (K : Nat) (C : CallC) (q1_1 q1_4 q1_12 : SV) (H1_0 : Heap) : Rs :=
  (o.cond q1_12
  (some (.tuple [(.int .i64 0), (.bool false)], H1_0))
  (o.lfld 0 q1_1 fun x11 =>
  o.lloadp 1 false q1_1 x11 fun x12 =>
  (o.cond x12
  (o.u_neg q1_4 fun x13 =>
  o.conv .i64 x13 fun x14 =>
  o.rest x14 fun r15 =>
  some (.tuple [r15, (.bool true)], H1_0))
  (o.conv .i64 q1_4 fun x17 =>
  o.rest x17 fun r18 =>
  some (.tuple [r18, (.bool true)], H1_0)))))
def f64 (o : Ops) (K : Nat) (C : CallC) (a0 : SV) (H : Heap) : Rs :=
  o.bbox a0 fun c1 =>
  o.lfld 1 (.box c1) fun x2 =>
  o.lloadp 1 true (.box c1) x2 fun x3 =>
  o.call (C 92 [x3] H) fun x4 H5 =>
  o.ext 0 x4 fun x6 =>
  o.ext 1 x4 fun x7 =>
  o.u_not x7 fun x8 =>
  (o.guard x8
  ((f64_j1 o K C (.box c1) x6 (.bool true) H5))
  (o.gtr x6 (.int .u64 9223372036854775808) fun x20 =>
  (o.guard x20
  ((f64_j1 o K C (.box c1) x6 (.bool true) H5))
  (o.eql x6 (.int .u64 9223372036854775808) fun x21 =>
  (o.guard x21
  (o.lfld 0 (.box c1) fun x22 =>
  o.lloadp 1 false (.box c1) x22 fun x23 =>
  o.u_not x23 fun x24 =>
  (f64_j1 o K C (.box c1) x6 x24 H5))
  ((f64_j1 o K C (.box c1) x6 (.bool false) H5))
  (none)))
  (none)))
  (none))
/-- parquet/parquetref07.Minor -/
def f65 (o : Ops) (K : Nat) (C : CallC) (a0 a1 : SV) (H : Heap) : Rs :=
  o.call (C 94 [a0, a1] H) fun x1 H2 =>
  o.call (C 93 [x1] H2) fun x3 H4 =>
  o.bstore 0 2 (.box [.bool false, .slice nilSl]) x3 fun c5 =>
  o.resc 2 true (.box c5) fun r6 =>
  some (r6, H4)
/-- parquet/parquetref05.Of -/
def f67_j1 (o : Ops) (K : Nat) (C : CallC) (q1_0 q1_2 q1_3 : SV) (H1_0 : Heap) : Rs :=
  o.lss q1_0 (.int .i64 0) fun x4 =>
  o.call (C 95 [q1_3] H1_0) fun x5 H6 =>
  o.build [.bool false, .slice nilSl] [(0, 1), (1, 1)] [x4, x5] fun x7 =>
  o.bstore 0 2 q1_2 x7 fun c8 =>
  o.resc 2 true (.box c8) fun r9 =>
  some (r9, H6)
def f67 (o : Ops) (K : Nat) (C : CallC) (a0 : SV) (H : Heap) : Rs :=
  o.conv .u64 a0 fun x1 =>
  o.lss a0 (.int .i64 0) fun x2 =>
  (o.cond x2
  (o.u_neg x1 fun x3 =>
  (f67_j1 o K C a0 (.box [.bool false, .slice nilSl]) x3 H))
  ((f67_j1 o K C a0 (.box [.bool false, .slice nilSl]) x1 H)))
/-- parquet/parquetref05.Mul -/
def f68_j1 (o : Ops) (K : Nat) (C : CallC) (q1_4 : SV) (H1_0 : Heap) : Rs :=
  o.resc 2 true q1_4 fun r18 =>
  some (r18, H1_0)
def f68 (o : Ops) (K : Nat) (C : CallC) (a0 a1 : SV) (H : Heap) : Rs :=
  o.bbox a0 fun c1 =>
  o.bbox a1 fun c2 =>
  o.lfld 1 (.box c1) fun x3 =>
  o.lloadp 1 false (.box c1) x3 fun x4 =>
  o.lfld 1 (.box c2) fun x5 =>
  o.lloadp 1 false (.box c2) x5 fun x6 =>
  o.call (C 96 [x4, x6] H) fun x7 H8 =>
  o.lfld 0 (.box c1) fun x9 =>
  o.lloadp 1 false (.box c1) x9 fun x10 =>
  o.lfld 0 (.box c2) fun x11 =>
  o.lloadp 1 false (.box c2) x11 fun x12 =>
  o.b_neq x10 x12 fun x13 =>
  (o.guard x13
  (o.len x7 fun x14 =>
  o.gtr x14 (.int .i64 0) fun x15 =>
  o.build [.bool false, .slice nilSl] [(0, 1), (1, 1)] [x15, x7] fun x16 =>
  o.bstore 0 2 (.box [.bool false, .slice nilSl]) x16 fun c17 =>
  (f68_j1 o K C (.box c17) H8))
  (o.build [.bool false, .slice nilSl] [(0, 1), (1, 1)] [(.bool false), x7] fun x19 =>
  o.bstore 0 2 (.box [.bool false, .slice nilSl]) x19 fun c20 =>
  (f68_j1 o K C (.box c20) H8))
  (none))
/-- parquet/parquetref05.Add -/
def f69_j2 (o : Ops) (K : Nat) (C : CallC) (q2_4 : SV) (H2_0 : Heap) : Rs :=
  o.resc 2 true q2_4 fun r38 =>
  some (r38, H2_0)
def f69 (o : Ops) (K : Nat) (C : CallC) (a0 a1 : SV) (H : Heap) : Rs :=
  o.bbox a0 fun c1 =>
  o.bbox a1 fun c2 =>
  o.lfld 0 (.box c1) fun x3 =>
  o.lloadp 1 false (.box c1) x3 fun x4 =>
  o.lfld 0 (.box c2) fun x5 =>
  o.lloadp 1 false (.box c2) x5 fun x6 =>
  o.b_eql x4 x6 fun x7 =>
  (o.cond x7
  (o.lfld 0 (.box c1) fun x8 =>
  o.lloadp 1 false (.box c1) x8 fun x9 =>
  o.lfld 1 (.box c1) fun x10 =>
  o.lloadp 1 false (.box c1) x10 fun x11 =>
  o.lfld 1 (.box c2) fun x12 =>
  o.lloadp 1 false (.box c2) x12 fun x13 =>
  o.call (C 97 [x11, x13] H) fun x14 H15 =>
  o.build [.bool false, .slice nilSl] [(0, 1), (1, 1)] [x9, x14] fun x16 =>
  o.bstore 0 2 (.box [.bool false, .slice nilSl]) x16 fun c17 =>
  o.resc 2 true (.box c17) fun r18 =>
  some (r18, H15))
  (o.lfld 1 (.box c1) fun x19 =>
  o.lloadp 1 false (.box c1) x19 fun x20 =>
  o.lfld 1 (.box c2) fun x21 =>
  o.lloadp 1 false (.box c2) x21 fun x22 =>
  o.call (C 98 [x20, x22] H) fun x23 H24 =>
  o.geq x23 (.int .i64 0) fun x25 =>
  (o.cond x25
  (o.lfld 1 (.box c1) fun x26 =>
  o.lloadp 1 false (.box c1) x26 fun x27 =>
  o.lfld 1 (.box c2) fun x28 =>
  o.lloadp 1 false (.box c2) x28 fun x29 =>
  o.call (C 99 [x27, x29] H24) fun x30 H31 =>
  o.lfld 0 (.box c1) fun x32 =>
  o.lloadp 1 false (.box c1) x32 fun x33 =>
  (o.guard x33
  (o.len x30 fun x34 =>
  o.gtr x34 (.int .i64 0) fun x35 =>
  o.build [.bool false, .slice nilSl] [(0, 1), (1, 1)] [x35, x30] fun x36 =>
  o.bstore 0 2 (.box [.bool false, .slice nilSl]) x36 fun c37 =>
  (f69_j2 o K C (.box c37) H31))
  (o.build [.bool false, .slice nilSl] [(0, 1), (1, 1)] [(.bool false), x30] fun x39 =>
  o.bstore 0 2 (.box [.bool false, .slice nilSl]) x39 fun c40 =>
  (f69_j2 o K C (.box c40) H31))
  (none)))
  (o.lfld 0 (.box c2) fun x41 =>
  o.lloadp 1 false (.box c2) x41 fun x42 =>
  o.lfld 1 (.box c2) fun x43 =>
  o.lloadp 1 false (.box c2) x43 fun x44 =>
  o.lfld 1 (.box c1) fun x45 =>
  o.lloadp 1 false (.box c1) x45 fun x46 =>
  o.call (C 99 [x44, x46] H24) fun x47 H48 =>
  o.build [.bool false, .slice nilSl] [(0, 1), (1, 1)] [x42, x47] fun x49 =>
  o.bstore 0 2 (.box [.bool false, .slice nilSl]) x49 fun c50 =>
  o.resc 2 true (.box c50) fun r51 =>
  some (r51, H48)))))
/-- math/bits.Len32 -/
def f71_j2 (o : Ops) (K : Nat) (C : CallC) (q2_0 q2_2 : SV) (H2_0 : Heap) : Rs :=
  o.conv .u8 q2_0 fun x6 =>
  o.stridx (.str [0, 1, 2, 2, 3, 3, 3, 3, 4, 4, 4, 4, 4, 4, 4, 4, 5, 5, 5, 5, 5, 5, 5, 5, 5, 5, 5, 5, 5, 5, 5, 5, 6, 6, 6, 6, 6, 6, 6, 6, 6, 6, 6, 6, 6, 6, 6, 6, 6, 6, 6, 6, 6, 6, 6, 6, 6, 6, 6, 6, 6, 6, 6, 6, 7, 7, 7, 7, 7, 7, 7, 7, 7, 7, 7, 7, 7, 7, 7, 7, 7, 7, 7, 7, 7, 7, 7, 7, 7, 7, 7, 7, 7, 7, 7, 7, 7, 7, 7, 7, 7, 7, 7, 7, 7, 7, 7, 7, 7, 7, 7, 7, 7, 7, 7, 7, 7, 7, 7, 7, 7, 7, 7, 7, 7, 7, 7, 7, 8, 8, 8, 8, 8, 8, 8, 8, 8, 8, 8, 8, 8, 8, 8, 8, 8, 8, 8, 8, 8, 8, 8, 8, 8, 8, 8, 8, 8, 8, 8, 8, 8, 8, 8, 8, 8, 8, 8, 8, 8, 8, 8, 8, 8, 8, 8, 8, 8, 8, 8, 8, 8, 8, 8, 8, 8, 8, 8, 8, 8, 8, 8, 8, 8, 8, 8, 8, 8, 8, 8, 8, 8, 8, 8, 8, 8, 8, 8, 8, 8, 8, 8, 8, 8, 8, 8, 8, 8, 8, 8, 8, 8, 8, 8, 8, 8, 8, 8, 8, 8, 8, 8, 8, 8, 8, 8, 8, 8, 8, 8, 8, 8, 8, 8, 8, 8, 8, 8, 8, 8, 8, 8, 8, 8, 8, 8, 8]) x6 fun x7 =>
  o.conv .i64 x7 fun x8 =>
  o.add q2_2 x8 fun x9 =>
  o.rest x9 fun r10 =>
  some (r10, H2_0)
def f71_j1 (o : Ops) (K : Nat) (C : CallC) (q1_0 q1_2 : SV) (H1_0 : Heap) : Rs :=
  o.geq q1_0 (.int .u32 256) fun x3 =>
  (o.cond x3
  (o.shr q1_0 (.int .u64 8) fun x4 =>
  o.add q1_2 (.int .i64 8) fun x5 =>
  (f71_j2 o K C x4 x5 H1_0))
  ((f71_j2 o K C q1_0 q1_2 H1_0)))
def f71 (o : Ops) (K : Nat) (C : CallC) (a0 : SV) (H : Heap) : Rs :=
  o.geq a0 (.int .u32 65536) fun x1 =>
  (o.cond x1
  (o.shr a0 (.int .u64 16) fun x2 =>
  (f71_j1 o K C x2 (.int .i64 16) H))
  ((f71_j1 o K C a0 (.int .i64 0) H)))
/-- parquet/nat.short -/
def f72_l1 (o : Ops) (K : Nat) (C : CallC) : SV → SV → SV → SV → Heap → (SV → SV → SV → SV → Heap → Rs) → Rs := fun y3 y4 y5 y6 H7 k8 =>
  o.geq y6 (.int .i64 0) fun x9 =>
  (o.cond x9
  (o.shl y5 (.int .u64 32) fun x10 =>
  o.idx 1 y3 y6 fun x11 =>
  o.load 1 false x11 H7 fun x12 =>
  o.conv .u64 x12 fun x13 =>
  o.or x10 x13 fun x14 =>
  o.conv .u64 y4 fun x15 =>
  o.quo x14 x15 fun x16 =>
  o.conv .u32 x16 fun x17 =>
  o.conv .u64 y4 fun x18 =>
  o.rem x14 x18 fun x19 =>
  o.idx 1 y3 y6 fun x20 =>
  o.store 1 x20 x17 H7 fun H22 =>
  o.sub y6 (.int .i64 1) fun x23 =>
  k8 y3 y4 x19 x23 H22)
  (o.conv .u32 y5 fun x24 =>
  o.rest x24 fun r25 =>
  some (r25, H7)))
def f72 (o : Ops) (K : Nat) (C : CallC) (a0 a1 : SV) (H : Heap) : Rs :=
  o.len a0 fun x1 =>
  o.sub x1 (.int .i64 1) fun x2 =>
  (o.loop4 (f72_l1 o K C) K a0 a1 (.int .u64 0) x2 H)
/-- parquet/nat.cut -/
def f73_j2 (o : Ops) (K : Nat) (C : CallC) (k6 : SV → SV → SV → Heap → Rs) (q2_0 q2_2 q2_3 q2_15 : SV) (H2_0 : Heap) : Rs :=
  (o.cond q2_15
  (o.sub q2_3 (.int .i64 1) fun x12 =>
  k6 q2_0 q2_2 x12 H2_0)
  (o.slice011 1 q2_0 q2_3 q2_3 H2_0 fun x13 =>
  o.build [.slice nilSl] [(0, 1)] [x13] fun x14 =>
  o.bstore 0 1 q2_2 x14 fun c15 =>
  o.resc 1 true (.box c15) fun r16 =>
  some (r16, H2_0)))
def f73_l1 (o : Ops) (K : Nat) (C : CallC) : SV → SV → SV → Heap → (SV → SV → SV → Heap → Rs) → Rs := fun y2 y3 y4 H5 k6 =>
  o.gtr y4 (.int .i64 0) fun x7 =>
  (o.guard x7
  (o.sub y4 (.int .i64 1) fun x8 =>
  o.idx 1 y2 x8 fun x9 =>
  o.load 1 false x9 H5 fun x10 =>
  o.eql x10 (.int .u32 0) fun x11 =>
  (f73_j2 o K C k6 y2 y3 y4 x11 H5))
  ((f73_j2 o K C k6 y2 y3 y4 (.bool false) H5))
  (none))
def f73 (o : Ops) (K : Nat) (C : CallC) (a0 : SV) (H : Heap) : Rs :=
  o.len a0 fun x1 =>
  (o.loop3 (f73_l1 o K C) K a0 (.box [.slice nilSl]) x1 H)
/-- parquet/gram.square[int64] -/
def f75_l3 (o : Ops) (K : Nat) (C : CallC) (k7 : SV → SV → SV → SV → SV → Heap → Rs) : SV → SV → SV → SV → SV → SV → SV → SV → SV → Heap → (SV → SV → SV → SV → SV → SV → SV → SV → SV → Heap → Rs) → Rs := fun y12 y13 y14 y15 y16 y17 y18 y19 y20 H21 k22 =>
  o.lss y20 y19 fun x23 =>
  (o.cond x23
  (o.callv C [y13, y15, y20] H21 fun x24 H25 =>
  o.idx 1 y16 y20 fun x26 =>
  o.store 1 x26 x24 H25 fun H28 =>
  o.add y20 (.int .i64 1) fun x29 =>
  k22 y12 y13 y14 y15 y16 y17 y18 y19 x29 H28)
  (o.hbuild 1 [.slice nilSl] [(0, 1)] [y16] H21 fun x30 H31 =>
  o.append 1 24 y14 x30 H31 fun x32 H33 =>
  o.add y18 (.int .i64 1) fun x34 =>
  k7 y12 y13 x32 y17 x34 H33))
def f75_l1 (o : Ops) (K : Nat) (C : CallC) : SV → SV → SV → SV → SV → Heap → (SV → SV → SV → SV → SV → Heap → Rs) → Rs := fun y1 y2 y3 y4 y5 H6 k7 =>
  o.lss y5 y4 fun x8 =>
  (o.cond x8
  (o.make 1 8 [.int .i64 0] y1 y1 H6 fun x9 H10 =>
  o.len x9 fun x11 =>
  (o.loop9 (f75_l3 o K C k7) K y1 y2 y3 y5 x9 y4 y5 x11 (.int .i64 0) H10))
  (o.rest y3 fun r35 =>
  some (r35, H6)))
def f75 (o : Ops) (K : Nat) (C : CallC) (a0 a1 : SV) (H : Heap) : Rs :=
  (o.loop5 (f75_l1 o K C) K a0 a1 (.slice nilSl) a0 (.int .i64 0) H)
/-- parquet/gram.Sum$1 -/
def f76_j2 (o : Ops) (K : Nat) (C : CallC) (q2_0 q2_1 q2_2 q2_4 q2_24 : SV) (H2_0 : Heap) : Rs :=
  (o.cond q2_24
  (o.load 1 false q2_4 H2_0 fun x15 =>
  o.load 1 false q2_2 H2_0 fun x16 =>
  o.sub q2_0 x16 fun x17 =>
  o.idx 1 x15 x17 fun x18 =>
  o.load 1 false x18 H2_0 fun x19 =>
  o.load 1 false q2_2 H2_0 fun x20 =>
  o.sub q2_1 x20 fun x21 =>
  o.idx 1 x19 x21 fun x22 =>
  o.load 1 false x22 H2_0 fun x23 =>
  o.rest x23 fun r24 =>
  some (r24, H2_0))
  (some ((.int .i64 0), H2_0)))
def f76_j1 (o : Ops) (K : Nat) (C : CallC) (q1_0 q1_1 q1_2 q1_3 q1_4 q1_8 : SV) (H1_0 : Heap) : Rs :=
  (o.cond q1_8
  (o.load 1 false q1_3 H1_0 fun x5 =>
  o.idx 1 x5 q1_0 fun x6 =>
  o.load 1 false x6 H1_0 fun x7 =>
  o.idx 1 x7 q1_1 fun x8 =>
  o.load 1 false x8 H1_0 fun x9 =>
  o.rest x9 fun r10 =>
  some (r10, H1_0))
  (o.load 1 false q1_2 H1_0 fun x11 =>
  o.geq q1_0 x11 fun x12 =>
  (o.guard x12
  (o.load 1 false q1_2 H1_0 fun x13 =>
  o.geq q1_1 x13 fun x14 =>
  (f76_j2 o K C q1_0 q1_1 q1_2 q1_4 x14 H1_0))
  ((f76_j2 o K C q1_0 q1_1 q1_2 q1_4 (.bool false) H1_0))
  (none))))
def f76 (o : Ops) (K : Nat) (C : CallC) (a0 a1 a2 a3 a4 : SV) (H : Heap) : Rs :=
  o.load 1 false a2 H fun x1 =>
  o.lss a0 x1 fun x2 =>
  (o.guard x2
  (o.load 1 false a2 H fun x3 =>
  o.lss a1 x3 fun x4 =>
  (f76_j1 o K C a0 a1 a2 a3 a4 x4 H))
  ((f76_j1 o K C a0 a1 a2 a3 a4 (.bool false) H))
  (none))
/-- parquet/gram.Scale$1 -/
def f77 (o : Ops) (K : Nat) (C : CallC) (a0 a1 a2 a3 : SV) (H : Heap) : Rs :=
  o.load 1 false a3 H fun x1 =>
  o.mul a2 x1 fun x2 =>
  o.call (C 44 [x2] H) fun x3 H4 =>
  o.rest x3 fun r5 =>
  some (r5, H4)
/-- parquet/gram.Scale$2 -/
def f78 (o : Ops) (K : Nat) (C : CallC) (a0 a1 a2 a3 : SV) (H : Heap) : Rs :=
  o.load 1 false a2 H fun x1 =>
  o.idx 1 x1 a0 fun x2 =>
  o.load 1 false x2 H fun x3 =>
  o.idx 1 x3 a1 fun x4 =>
  o.load 1 false x4 H fun x5 =>
  o.load 1 false a3 H fun x6 =>
  o.mul x5 x6 fun x7 =>
  o.rest x7 fun r8 =>
  some (r8, H)
/-- parquet/gram.square[parquet/zint.Int] -/
def f79_l3 (o : Ops) (K : Nat) (C : CallC) (k7 : SV → SV → SV → SV → SV → Heap → Rs) : SV → SV → SV → SV → SV → SV → SV → SV → SV → Heap → (SV → SV → SV → SV → SV → SV → SV → SV → SV → Heap → Rs) → Rs := fun y12 y13 y14 y15 y16 y17 y18 y19 y20 H21 k22 =>
  o.lss y20 y19 fun x23 =>
  (o.cond x23
  (o.callv C [y13, y15, y20] H21 fun x24 H25 =>
  o.idx 2 y16 y20 fun x26 =>
  o.store 2 x26 x24 H25 fun H28 =>
  o.add y20 (.int .i64 1) fun x29 =>
  k22 y12 y13 y14 y15 y16 y17 y18 y19 x29 H28)
  (o.hbuild 1 [.slice nilSl] [(0, 1)] [y16] H21 fun x30 H31 =>
  o.append 1 24 y14 x30 H31 fun x32 H33 =>
  o.add y18 (.int .i64 1) fun x34 =>
  k7 y12 y13 x32 y17 x34 H33))
def f79_l1 (o : Ops) (K : Nat) (C : CallC) : SV → SV → SV → SV → SV → Heap → (SV → SV → SV → SV → SV → Heap → Rs) → Rs := fun y1 y2 y3 y4 y5 H6 k7 =>
  o.lss y5 y4 fun x8 =>
  (o.cond x8
  (o.make 2 32 [.bool false, .slice nilSl] y1 y1 H6 fun x9 H10 =>
  o.len x9 fun x11 =>
  (o.loop9 (f79_l3 o K C k7) K y1 y2 y3 y5 x9 y4 y5 x11 (.int .i64 0) H10))
  (o.rest y3 fun r35 =>
  some (r35, H6)))
def f79 (o : Ops) (K : Nat) (C : CallC) (a0 a1 : SV) (H : Heap) : Rs :=
  (o.loop5 (f79_l1 o K C) K a0 a1 (.slice nilSl) a0 (.int .i64 0) H)
/-- parquet/gram.positive$1 -/
def f80 (o : Ops) (K : Nat) (C : CallC) (a0 a1 a2 : SV) (H : Heap) : Rs :=
  o.load 1 false a2 H fun x1 =>
  o.idx 1 x1 a0 fun x2 =>
  o.load 1 false x2 H fun x3 =>
  o.idx 1 x3 a1 fun x4 =>
  o.load 1 false x4 H fun x5 =>
  o.call (C 18 [x5] H) fun x6 H7 =>
  o.bstore 0 2 (.box [.bool false, .slice nilSl]) x6 fun c8 =>
  o.resc 2 true (.box c8) fun r9 =>
  some (r9, H7)
/-- parquet/zint.Sub -/
def f81 (o : Ops) (K : Nat) (C : CallC) (a0 a1 : SV) (H : Heap) : Rs :=
  o.bbox a0 fun c1 =>
  o.bbox a1 fun c2 =>
  o.lload 0 2 true (.box c1) fun x3 =>
  o.lload 0 2 true (.box c2) fun x4 =>
  o.call (C 85 [x4] H) fun x5 H6 =>
  o.call (C 63 [x3, x5] H6) fun x7 H8 =>
  o.ext 0 x7 fun x9 =>
  o.ext 1 x7 fun x10 =>
  o.bstore 0 2 (.box [.bool false, .slice nilSl]) x9 fun c11 =>
  o.resc 2 true (.box c11) fun r12 =>
  o.rest x10 fun r13 =>
  some (.tuple [r12, r13], H8)
/-- parquet/zint.Exact -/
def f82 (o : Ops) (K : Nat) (C : CallC) (a0 a1 : SV) (H : Heap) : Rs :=
  o.bbox a0 fun c1 =>
  o.bbox a1 fun c2 =>
  o.lload 0 2 true (.box c1) fun x3 =>
  o.lload 0 2 true (.box c2) fun x4 =>
  o.call (C 101 [x3, x4] H) fun x5 H6 =>
  o.ext 0 x5 fun x7 =>
  o.ext 1 x5 fun x8 =>
  o.ext 2 x5 fun x9 =>
  o.bstore 0 2 (.box [.bool false, .slice nilSl]) x7 fun c10 =>
  o.bstore 0 2 (.box [.bool false, .slice nilSl]) x8 fun c11 =>
  o.neq x9 (.int .i64 0) fun x12 =>
  (o.cond x12
  (o.build [.bool false, .slice nilSl] [] [] fun x13 =>
  o.bstore 0 2 (.box [.bool false, .slice nilSl]) x13 fun c14 =>
  o.resc 2 true (.box c14) fun r15 =>
  o.rest x9 fun r16 =>
  some (.tuple [r15, r16], H6))
  (o.lload 0 2 true (.box c11) fun x17 =>
  o.call (C 14 [x17] H6) fun x18 H19 =>
  o.neq x18 (.int .i64 0) fun x20 =>
  (o.cond x20
  (o.build [.bool false, .slice nilSl] [] [] fun x21 =>
  o.bstore 0 2 (.box [.bool false, .slice nilSl]) x21 fun c22 =>
  o.resc 2 true (.box c22) fun r23 =>
  some (.tuple [r23, (.int .i64 2)], H19))
  (o.lload 0 2 true (.box c10) fun x25 =>
  o.bstore 0 2 (.box [.bool false, .slice nilSl]) x25 fun c26 =>
  o.resc 2 true (.box c26) fun r27 =>
  some (.tuple [r27, (.int .i64 0)], H19)))))
/-- (parquet/mat.Mat).wide -/
def f83_l3 (o : Ops) (K : Nat) (C : CallC) (k11 : SV → SV → SV → SV → SV → Heap → Rs) : SV → SV → SV → SV → SV → SV → SV → SV → Heap → (SV → SV → SV → SV → SV → SV → SV → SV → Heap → Rs) → Rs := fun y16 y17 y18 y19 y20 y21 y22 y23 H24 k25 =>
  o.lss y23 y22 fun x26 =>
  (o.cond x26
  (o.idx 2 y21 y23 fun x27 =>
  o.load 2 true x27 H24 fun x28 =>
  o.bstore 0 2 (.box [.bool false, .slice nilSl]) x28 fun c29 =>
  o.lload 0 2 true (.box c29) fun x30 =>
  o.call (C 19 [x30] H24) fun x31 H32 =>
  o.call (C 32 [x31] H32) fun x33 H34 =>
  o.max [y17, x33] fun x35 =>
  o.add y23 (.int .i64 1) fun x36 =>
  k25 y16 x35 y18 y19 y20 y21 y22 x36 H34)
  (o.add y20 (.int .i64 1) fun x37 =>
  k11 y16 y17 y18 y19 x37 H24))
def f83_l1 (o : Ops) (K : Nat) (C : CallC) : SV → SV → SV → SV → SV → Heap → (SV → SV → SV → SV → SV → Heap → Rs) → Rs := fun y5 y6 y7 y8 y9 H10 k11 =>
  o.lss y9 y8 fun x12 =>
  (o.cond x12
  (o.idx 1 y7 y9 fun x13 =>
  o.load 1 false x13 H10 fun x14 =>
  o.len x14 fun x15 =>
  (o.loop8 (f83_l3 o K C k11) K y5 y6 y7 y8 y9 x14 x15 (.int .i64 0) H10))
  (o.lload 0 1 true y5 fun x38 =>
  o.call (C 57 [x38] H10) fun x39 H40 =>
  o.ext 0 x39 fun x41 =>
  o.ext 1 x39 fun x42 =>
  o.min [x41, x42] fun x43 =>
  o.mul (.int .i64 2) x43 fun x44 =>
  o.conv .u64 x43 fun x45 =>
  o.call (C 102 [x45] H40) fun x46 H47 =>
  o.add y6 x46 fun x48 =>
  o.mul x44 x48 fun x49 =>
  o.gtr x49 (.int .i64 4096) fun x50 =>
  o.rest x50 fun r51 =>
  some (r51, H47)))
def f83 (o : Ops) (K : Nat) (C : CallC) (a0 : SV) (H : Heap) : Rs :=
  o.bbox a0 fun c1 =>
  o.lfld 0 (.box c1) fun x2 =>
  o.lloadp 1 false (.box c1) x2 fun x3 =>
  o.len x3 fun x4 =>
  (o.loop5 (f83_l1 o K C) K (.box c1) (.int .i64 0) x3 x4 (.int .i64 0) H)
/-- (parquet/mat.Mat).At -/
def f84_j1 (o : Ops) (K : Nat) (C : CallC) (q1_1 q1_2 q1_3 q1_6 q1_29 : SV) (H1_0 : Heap) : Rs :=
  (o.cond q1_29
  (o.build [.bool false, .slice nilSl] [] [] fun x8 =>
  o.bstore 0 2 q1_6 x8 fun c9 =>
  o.resc 2 true (.box c9) fun r10 =>
  some (r10, H1_0))
  (o.lfld 0 q1_3 fun x11 =>
  o.lloadp 1 false q1_3 x11 fun x12 =>
  o.idx 1 x12 q1_1 fun x13 =>
  o.load 1 false x13 H1_0 fun x14 =>
  o.idx 2 x14 q1_2 fun x15 =>
  o.load 2 true x15 H1_0 fun x16 =>
  o.bstore 0 2 q1_6 x16 fun c17 =>
  o.resc 2 true (.box c17) fun r18 =>
  some (r18, H1_0)))
def f84 (o : Ops) (K : Nat) (C : CallC) (a0 a1 a2 : SV) (H : Heap) : Rs :=
  o.bbox a0 fun c1 =>
  o.lload 0 1 true (.box c1) fun x2 =>
  o.call (C 57 [x2] H) fun x3 H4 =>
  o.ext 0 x3 fun x5 =>
  o.ext 1 x3 fun x6 =>
  o.lss a1 (.int .i64 0) fun x7 =>
  (o.guard x7
  ((f84_j1 o K C a1 a2 (.box c1) (.box [.bool false, .slice nilSl]) (.bool true) H4))
  (o.geq a1 x5 fun x19 =>
  (o.guard x19
  ((f84_j1 o K C a1 a2 (.box c1) (.box [.bool false, .slice nilSl]) (.bool true) H4))
  (o.lss a2 (.int .i64 0) fun x20 =>
  (o.guard x20
  ((f84_j1 o K C a1 a2 (.box c1) (.box [.bool false, .slice nilSl]) (.bool true) H4))
  (o.geq a2 x6 fun x21 =>
  (f84_j1 o K C a1 a2 (.box c1) (.box [.bool false, .slice nilSl]) x21 H4))
  (none)))
  (none)))
  (none))
/-- parquet/zint.Neg -/
def f85 (o : Ops) (K : Nat) (C : CallC) (a0 : SV) (H : Heap) : Rs :=
  o.bbox a0 fun c1 =>
  o.lfld 0 (.box c1) fun x2 =>
  o.lloadp 1 false (.box c1) x2 fun x3 =>
  o.u_not x3 fun x4 =>
  o.lfld 1 (.box c1) fun x5 =>
  o.lloadp 1 true (.box c1) x5 fun x6 =>
  o.call (C 89 [x4, x6] H) fun x7 H8 =>
  o.bstore 0 2 (.box [.bool false, .slice nilSl]) x7 fun c9 =>
  o.resc 2 true (.box c9) fun r10 =>
  some (r10, H8)
/-- parquet/gram.dot$1 -/
def f86 (o : Ops) (K : Nat) (C : CallC) (a0 a1 a2 a3 a4 a5 : SV) (H : Heap) : Rs :=
  o.load 1 false a3 H fun x1 =>
  o.idx 1 x1 a0 fun x2 =>
  o.load 1 false x2 H fun x3 =>
  o.call (C 18 [x3] H) fun x4 H5 =>
  o.load 1 false a4 H5 fun x6 =>
  o.idx 1 x6 a1 fun x7 =>
  o.load 1 false x7 H5 fun x8 =>
  o.call (C 18 [x8] H5) fun x9 H10 =>
  o.call (C 62 [x4, x9] H10) fun x11 H12 =>
  o.ext 0 x11 fun x13 =>
  o.ext 1 x11 fun x14 =>
  o.bstore 0 2 (.box [.bool false, .slice nilSl]) x13 fun c15 =>
  (o.same a4 H H5 ((o.same x7 H H5 (o.lload 0 2 true (.box c15) fun x16 =>
  o.call (C 18 [a2] H12) fun x17 H18 =>
  o.call (C 62 [x16, x17] H18) fun x19 H20 =>
  o.ext 0 x19 fun x21 =>
  o.ext 1 x19 fun x22 =>
  o.bstore 0 2 (.box c15) x21 fun c23 =>
  o.load 2 true a5 H20 fun x24 =>
  o.lload 0 2 true (.box c23) fun x25 =>
  o.call (C 63 [x24, x25] H20) fun x26 H27 =>
  o.ext 0 x26 fun x28 =>
  o.ext 1 x26 fun x29 =>
  o.store 2 a5 x28 H27 fun H31 =>
  some ((.bool true), H31)))))
/-- (parquet/mat.Mat).Transpose$1 -/
def f87 (o : Ops) (K : Nat) (C : CallC) (a0 a1 a2 : SV) (H : Heap) : Rs :=
  o.fld 0 a2 fun x1 =>
  o.load 1 false x1 H fun x2 =>
  o.idx 1 x2 a1 fun x3 =>
  o.load 1 false x3 H fun x4 =>
  o.idx 2 x4 a0 fun x5 =>
  o.load 2 true x5 H fun x6 =>
  o.bstore 0 2 (.box [.bool false, .slice nilSl]) x6 fun c7 =>
  o.resc 2 true (.box c7) fun r8 =>
  some (r8, H)
/-- parquet/mat.whole$1 -/
def f88 (o : Ops) (K : Nat) (C : CallC) (a0 a1 a2 a3 : SV) (H : Heap) : Rs :=
  o.load 1 false a2 H fun x1 =>
  o.neq x1 (.int .i64 0) fun x2 =>
  (o.cond x2
  (o.build [.bool false, .slice nilSl] [] [] fun x3 =>
  o.bstore 0 2 (.box [.bool false, .slice nilSl]) x3 fun c4 =>
  o.resc 2 true (.box c4) fun r5 =>
  some (r5, H))
  (o.load 1 false a3 H fun x6 =>
  o.callv C [x6, a0, a1] H fun x7 H8 =>
  o.ext 0 x7 fun x9 =>
  o.ext 1 x7 fun x10 =>
  o.bstore 0 2 (.box [.bool false, .slice nilSl]) x9 fun c11 =>
  o.store 1 a2 x10 H8 fun H13 =>
  o.lload 0 2 true (.box c11) fun x14 =>
  o.bstore 0 2 (.box [.bool false, .slice nilSl]) x14 fun c15 =>
  o.resc 2 true (.box c15) fun r16 =>
  some (r16, H13)))
/-- parquet/zint.Make -/
def f89_j1 (o : Ops) (K : Nat) (C : CallC) (q1_4 : SV) (H1_0 : Heap) : Rs :=
  o.resc 2 true q1_4 fun r9 =>
  some (r9, H1_0)
def f89 (o : Ops) (K : Nat) (C : CallC) (a0 a1 : SV) (H : Heap) : Rs :=
  o.bbox a1 fun c1 =>
  (o.guard a0
  (o.lload 0 1 true (.box c1) fun x2 =>
  o.call (C 32 [x2] H) fun x3 H4 =>
  o.gtr x3 (.int .i64 0) fun x5 =>
  o.lload 0 1 true (.box c1) fun x6 =>
  o.build [.bool false, .slice nilSl] [(0, 1), (1, 1)] [x5, x6] fun x7 =>
  o.bstore 0 2 (.box [.bool false, .slice nilSl]) x7 fun c8 =>
  (f89_j1 o K C (.box c8) H4))
  (o.lload 0 1 true (.box c1) fun x10 =>
  o.build [.bool false, .slice nilSl] [(0, 1), (1, 1)] [(.bool false), x10] fun x11 =>
  o.bstore 0 2 (.box [.bool false, .slice nilSl]) x11 fun c12 =>
  (f89_j1 o K C (.box c12) H))
  (none))
/-- parquet/nat.Add -/
def f90_j4 (o : Ops) (K : Nat) (C : CallC) (k32 : SV → SV → SV → SV → SV → SV → Heap → Rs) (q4_3 q4_4 q4_6 q4_7 q4_8 q4_28 q4_29 : SV) (H4_0 : Heap) : Rs :=
  o.conv .u32 q4_7 fun x48 =>
  o.idx 1 q4_6 q4_8 fun x49 =>
  o.store 1 x49 x48 H4_0 fun H51 =>
  o.shr q4_7 (.int .u64 32) fun x52 =>
  o.add q4_29 (.int .i64 1) fun x53 =>
  k32 q4_3 q4_4 q4_6 x52 q4_28 x53 H51
def f90_l2 (o : Ops) (K : Nat) (C : CallC) : SV → SV → SV → SV → SV → SV → Heap → (SV → SV → SV → SV → SV → SV → Heap → Rs) → Rs := fun y25 y26 y27 y28 y29 y30 H31 k32 =>
  o.lss y30 y29 fun x33 =>
  (o.cond x33
  (o.idx 1 y27 y30 fun x34 =>
  o.load 1 false x34 H31 fun x35 =>
  o.conv .u64 x35 fun x36 =>
  o.add y28 x36 fun x37 =>
  o.lfld 0 y25 fun x38 =>
  o.lloadp 1 false y25 x38 fun x39 =>
  o.len x39 fun x40 =>
  o.lss y30 x40 fun x41 =>
  (o.cond x41
  (o.lfld 0 y25 fun x42 =>
  o.lloadp 1 false y25 x42 fun x43 =>
  o.idx 1 x43 y30 fun x44 =>
  o.load 1 false x44 H31 fun x45 =>
  o.conv .u64 x45 fun x46 =>
  o.add x37 x46 fun x47 =>
  (f90_j4 o K C k32 y25 y26 y27 x47 y30 y29 y30 H31))
  ((f90_j4 o K C k32 y25 y26 y27 x37 y30 y29 y30 H31))))
  (o.call (C 73 [y27] H31) fun x54 H55 =>
  o.call (C 55 [x54] H55) fun x56 H57 =>
  o.ext 0 x56 fun x58 =>
  o.ext 1 x56 fun x59 =>
  o.bstore 0 1 y26 x58 fun c60 =>
  o.resc 1 true (.box c60) fun r61 =>
  o.rest x59 fun r62 =>
  some (.tuple [r61, r62], H57)))
def f90_j1 (o : Ops) (K : Nat) (C : CallC) (q1_2 q1_3 q1_4 : SV) (H1_0 : Heap) : Rs :=
  o.lfld 0 q1_2 fun x14 =>
  o.lloadp 1 false q1_2 x14 fun x15 =>
  o.len x15 fun x16 =>
  o.add x16 (.int .i64 1) fun x17 =>
  o.make 1 4 [.int .u32 0] x17 x17 H1_0 fun x18 H19 =>
  o.lfld 0 q1_2 fun x20 =>
  o.lloadp 1 false q1_2 x20 fun x21 =>
  o.copy 1 x18 x21 H19 fun x22 H23 =>
  o.len x18 fun x24 =>
  (o.loop6 (f90_l2 o K C) K q1_3 q1_4 x18 (.int .u64 0) x24 (.int .i64 0) H23)
def f90 (o : Ops) (K : Nat) (C : CallC) (a0 a1 : SV) (H : Heap) : Rs :=
  o.bbox a0 fun c1 =>
  o.bbox a1 fun c2 =>
  o.lfld 0 (.box c1) fun x3 =>
  o.lloadp 1 false (.box c1) x3 fun x4 =>
  o.len x4 fun x5 =>
  o.lfld 0 (.box c2) fun x6 =>
  o.lloadp 1 false (.box c2) x6 fun x7 =>
  o.len x7 fun x8 =>
  o.lss x5 x8 fun x9 =>
  (o.cond x9
  (o.lload 0 1 true (.box c2) fun x10 =>
  o.lload 0 1 true (.box c1) fun x11 =>
  o.bstore 0 1 (.box c1) x10 fun c12 =>
  o.bstore 0 1 (.box c2) x11 fun c13 =>
  (f90_j1 o K C (.box c12) (.box c13) (.box [.slice nilSl]) H))
  ((f90_j1 o K C (.box c1) (.box c2) (.box [.slice nilSl]) H)))
/-- parquet/nat.Sub -/
def f91 (o : Ops) (K : Nat) (C : CallC) (a0 a1 : SV) (H : Heap) : Rs :=
  o.bbox a0 fun c1 =>
  o.bbox a1 fun c2 =>
  o.lload 0 1 true (.box c1) fun x3 =>
  o.lload 0 1 true (.box c2) fun x4 =>
  o.call (C 20 [x3, x4] H) fun x5 H6 =>
  o.lss x5 (.int .i64 0) fun x7 =>
  (o.cond x7
  (o.build [.slice nilSl] [] [] fun x8 =>
  o.bstore 0 1 (.box [.slice nilSl]) x8 fun c9 =>
  o.resc 1 true (.box c9) fun r10 =>
  some (.tuple [r10, (.int .i64 10)], H6))
  (o.lfld 0 (.box c1) fun x12 =>
  o.lloadp 1 false (.box c1) x12 fun x13 =>
  o.len x13 fun x14 =>
  o.make 1 4 [.int .u32 0] x14 x14 H6 fun x15 H16 =>
  o.lfld 0 (.box c1) fun x17 =>
  o.lloadp 1 false (.box c1) x17 fun x18 =>
  o.copy 1 x15 x18 H16 fun x19 H20 =>
  o.lfld 0 (.box c2) fun x21 =>
  o.lloadp 1 false (.box c2) x21 fun x22 =>
  o.call (C 103 [x15, x22] H20) fun x23 H24 =>
  o.call (C 73 [x15] H24) fun x25 H26 =>
  o.bstore 0 1 (.box [.slice nilSl]) x25 fun c27 =>
  o.resc 1 true (.box c27) fun r28 =>
  some (.tuple [r28, (.int .i64 0)], H26)))
/-- (parquet/nat.Nat).Uint64 -/
def f92 (o : Ops) (K : Nat) (C : CallC) (a0 : SV) (H : Heap) : Rs :=
  o.bbox a0 fun c1 =>
  o.lfld 0 (.box c1) fun x2 =>
  o.lloadp 1 false (.box c1) x2 fun x3 =>
  o.len x3 fun x4 =>
  o.eql x4 (.int .i64 0) fun x5 =>
  (o.cond x5
  (some (.tuple [(.int .u64 0), (.bool true)], H))
  (o.eql x4 (.int .i64 1) fun x8 =>
  (o.cond x8
  (o.lfld 0 (.box c1) fun x9 =>
  o.lloadp 1 false (.box c1) x9 fun x10 =>
  o.idx 1 x10 (.int .i64 0) fun x11 =>
  o.load 1 false x11 H fun x12 =>
  o.conv .u64 x12 fun x13 =>
  o.rest x13 fun r14 =>
  some (.tuple [r14, (.bool true)], H))
  (o.eql x4 (.int .i64 2) fun x16 =>
  (o.cond x16
  (o.lfld 0 (.box c1) fun x17 =>
  o.lloadp 1 false (.box c1) x17 fun x18 =>
  o.idx 1 x18 (.int .i64 1) fun x19 =>
  o.load 1 false x19 H fun x20 =>
  o.conv .u64 x20 fun x21 =>
  o.shl x21 (.int .u64 32) fun x22 =>
  o.lfld 0 (.box c1) fun x23 =>
  o.lloadp 1 false (.box c1) x23 fun x24 =>
  o.idx 1 x24 (.int .i64 0) fun x25 =>
  o.load 1 false x25 H fun x26 =>
  o.conv .u64 x26 fun x27 =>
  o.or x22 x27 fun x28 =>
  o.rest x28 fun r29 =>
  some (.tuple [r29, (.bool true)], H))
  (some (.tuple [(.int .u64 0), (.bool false)], H)))))))
/-- parquet/parquetref05.Det -/
def f93 (o : Ops) (K : Nat) (C : CallC) (a0 : SV) (H : Heap) : Rs :=
  o.call (C 104 [a0] H) fun x1 H2 =>
  o.ext 0 x1 fun x3 =>
  o.ext 1 x1 fun x4 =>
  o.bstore 0 2 (.box [.bool false, .slice nilSl]) x4 fun c5 =>
  o.lload 0 2 true (.box c5) fun x6 =>
  o.bstore 0 2 (.box [.bool false, .slice nilSl]) x6 fun c7 =>
  o.resc 2 true (.box c7) fun r8 =>
  some (r8, H2)
/-- parquet/parquetref07.corner -/
def f94_l3 (o : Ops) (K : Nat) (C : CallC) (k6 : SV → SV → SV → SV → Heap → Rs) : SV → SV → SV → SV → SV → SV → Heap → (SV → SV → SV → SV → SV → SV → Heap → Rs) → Rs := fun y8 y9 y10 y11 y12 y13 H14 k15 =>
  o.lss y13 y9 fun x16 =>
  (o.cond x16
  (o.idx 1 y8 y11 fun x17 =>
  o.load 1 false x17 H14 fun x18 =>
  o.idx 1 x18 y13 fun x19 =>
  o.load 1 false x19 H14 fun x20 =>
  o.call (C 67 [x20] H14) fun x21 H22 =>
  o.hbuild 2 [.bool false, .slice nilSl] [(0, 2)] [x21] H22 fun x23 H24 =>
  o.append 2 32 y12 x23 H24 fun x25 H26 =>
  o.add y13 (.int .i64 1) fun x27 =>
  k15 y8 y9 y10 y11 x25 x27 H26)
  (o.hbuild 1 [.slice nilSl] [(0, 1)] [y12] H14 fun x28 H29 =>
  o.append 1 24 y10 x28 H29 fun x30 H31 =>
  o.add y11 (.int .i64 1) fun x32 =>
  k6 y8 y9 x30 x32 H31))
def f94_l1 (o : Ops) (K : Nat) (C : CallC) : SV → SV → SV → SV → Heap → (SV → SV → SV → SV → Heap → Rs) → Rs := fun y1 y2 y3 y4 H5 k6 =>
  o.lss y4 y2 fun x7 =>
  (o.cond x7
  ((o.loop6 (f94_l3 o K C k6) K y1 y2 y3 y4 (.slice nilSl) (.int .i64 0) H5))
  (o.rest y3 fun r33 =>
  some (r33, H5)))
def f94 (o : Ops) (K : Nat) (C : CallC) (a0 a1 : SV) (H : Heap) : Rs :=
  (o.loop4 (f94_l1 o K C) K a0 a1 (.slice nilSl) (.int .i64 0) H)
/-- parquet/parquetref01.Of -/
def f95_l1 (o : Ops) (K : Nat) (C : CallC) : SV → SV → Heap → (SV → SV → Heap → Rs) → Rs := fun y1 y2 H3 k4 =>
  o.gtr y1 (.int .u64 0) fun x5 =>
  (o.cond x5
  (o.rem y1 (.int .u64 65536) fun x6 =>
  o.conv .u32 x6 fun x7 =>
  o.hbuild 1 [.int .u32 0] [(0, 1)] [x7] H3 fun x8 H9 =>
  o.append 1 4 y2 x8 H9 fun x10 H11 =>
  o.quo y1 (.int .u64 65536) fun x12 =>
  k4 x12 x10 H11)
  (o.rest y2 fun r13 =>
  some (r13, H3)))
def f95 (o : Ops) (K : Nat) (C : CallC) (a0 : SV) (H : Heap) : Rs :=
  (o.loop2 (f95_l1 o K C) K a0 (.slice nilSl) H)
/-- parquet/parquetref01.Mul -/
def f96_j6 (o : Ops) (K : Nat) (C : CallC) (k21 : SV → SV → SV → SV → SV → SV → Heap → Rs) (q6_0 q6_1 q6_5 q6_6 q6_8 q6_9 : SV) (H6_0 : Heap) : Rs :=
  o.add q6_6 q6_8 fun x39 =>
  o.rem q6_9 (.int .u64 65536) fun x40 =>
  o.conv .u32 x40 fun x41 =>
  o.idx 1 q6_5 x39 fun x42 =>
  o.store 1 x42 x41 H6_0 fun H44 =>
  o.quo q6_9 (.int .u64 65536) fun x45 =>
  o.add q6_8 (.int .i64 1) fun x46 =>
  k21 q6_0 q6_1 q6_5 q6_6 x45 x46 H44
def f96_j4 (o : Ops) (K : Nat) (C : CallC) (k11 : SV → SV → SV → SV → Heap → Rs) (k21 : SV → SV → SV → SV → SV → SV → Heap → Rs) (q4_0 q4_1 q4_5 q4_6 q4_7 q4_8 q4_29 : SV) (H4_0 : Heap) : Rs :=
  (o.cond q4_29
  (o.add q4_6 q4_8 fun x24 =>
  o.idx 1 q4_5 x24 fun x25 =>
  o.load 1 false x25 H4_0 fun x26 =>
  o.conv .u64 x26 fun x27 =>
  o.add x27 q4_7 fun x28 =>
  o.len q4_1 fun x29 =>
  o.lss q4_8 x29 fun x30 =>
  (o.cond x30
  (o.idx 1 q4_0 q4_6 fun x31 =>
  o.load 1 false x31 H4_0 fun x32 =>
  o.conv .u64 x32 fun x33 =>
  o.idx 1 q4_1 q4_8 fun x34 =>
  o.load 1 false x34 H4_0 fun x35 =>
  o.conv .u64 x35 fun x36 =>
  o.mul x33 x36 fun x37 =>
  o.add x28 x37 fun x38 =>
  (f96_j6 o K C k21 q4_0 q4_1 q4_5 q4_6 q4_8 x38 H4_0))
  ((f96_j6 o K C k21 q4_0 q4_1 q4_5 q4_6 q4_8 x28 H4_0))))
  (o.add q4_6 (.int .i64 1) fun x47 =>
  k11 q4_0 q4_1 q4_5 x47 H4_0))
def f96_l3 (o : Ops) (K : Nat) (C : CallC) (k11 : SV → SV → SV → SV → Heap → Rs) : SV → SV → SV → SV → SV → SV → Heap → (SV → SV → SV → SV → SV → SV → Heap → Rs) → Rs := fun y14 y15 y16 y17 y18 y19 H20 k21 =>
  o.len y15 fun x22 =>
  o.lss y19 x22 fun x23 =>
  (o.guard x23
  ((f96_j4 o K C k11 k21 y14 y15 y16 y17 y18 y19 (.bool true) H20))
  (o.gtr y18 (.int .u64 0) fun x48 =>
  (f96_j4 o K C k11 k21 y14 y15 y16 y17 y18 y19 x48 H20))
  (none))
def f96_l1 (o : Ops) (K : Nat) (C : CallC) : SV → SV → SV → SV → Heap → (SV → SV → SV → SV → Heap → Rs) → Rs := fun y6 y7 y8 y9 H10 k11 =>
  o.len y6 fun x12 =>
  o.lss y9 x12 fun x13 =>
  (o.cond x13
  ((o.loop6 (f96_l3 o K C k11) K y6 y7 y8 y9 (.int .u64 0) (.int .i64 0) H10))
  (o.call (C 105 [y8] H10) fun x49 H50 =>
  o.rest x49 fun r51 =>
  some (r51, H50)))
def f96 (o : Ops) (K : Nat) (C : CallC) (a0 a1 : SV) (H : Heap) : Rs :=
  o.len a0 fun x1 =>
  o.len a1 fun x2 =>
  o.add x1 x2 fun x3 =>
  o.make 1 4 [.int .u32 0] x3 x3 H fun x4 H5 =>
  (o.loop4 (f96_l1 o K C) K a0 a1 x4 (.int .i64 0) H5)
/-- parquet/parquetref01.Add -/
def f97_j5 (o : Ops) (K : Nat) (C : CallC) (k7 : SV → SV → SV → SV → SV → Heap → Rs) (q5_0 q5_1 q5_5 q5_7 q5_8 : SV) (H5_0 : Heap) : Rs :=
  o.rem q5_8 (.int .u32 65536) fun x20 =>
  o.hbuild 1 [.int .u32 0] [(0, 1)] [x20] H5_0 fun x21 H22 =>
  o.append 1 4 q5_5 x21 H22 fun x23 H24 =>
  o.quo q5_8 (.int .u32 65536) fun x25 =>
  o.add q5_7 (.int .i64 1) fun x26 =>
  k7 q5_0 q5_1 x23 x25 x26 H24
def f97_j4 (o : Ops) (K : Nat) (C : CallC) (k7 : SV → SV → SV → SV → SV → Heap → Rs) (q4_0 q4_1 q4_5 q4_7 q4_8 : SV) (H4_0 : Heap) : Rs :=
  o.len q4_1 fun x15 =>
  o.lss q4_7 x15 fun x16 =>
  (o.cond x16
  (o.idx 1 q4_1 q4_7 fun x17 =>
  o.load 1 false x17 H4_0 fun x18 =>
  o.add q4_8 x18 fun x19 =>
  (f97_j5 o K C k7 q4_0 q4_1 q4_5 q4_7 x19 H4_0))
  ((f97_j5 o K C k7 q4_0 q4_1 q4_5 q4_7 q4_8 H4_0)))
def f97_j2 (o : Ops) (K : Nat) (C : CallC) (k7 : SV → SV → SV → SV → SV → Heap → Rs) (q2_0 q2_1 q2_5 q2_6 q2_7 q2_22 : SV) (H2_0 : Heap) : Rs :=
  (o.cond q2_22
  (o.len q2_0 fun x10 =>
  o.lss q2_7 x10 fun x11 =>
  (o.cond x11
  (o.idx 1 q2_0 q2_7 fun x12 =>
  o.load 1 false x12 H2_0 fun x13 =>
  o.add q2_6 x13 fun x14 =>
  (f97_j4 o K C k7 q2_0 q2_1 q2_5 q2_7 x14 H2_0))
  ((f97_j4 o K C k7 q2_0 q2_1 q2_5 q2_7 q2_6 H2_0))))
  (o.call (C 105 [q2_5] H2_0) fun x27 H28 =>
  o.rest x27 fun r29 =>
  some (r29, H28)))
def f97_l1 (o : Ops) (K : Nat) (C : CallC) : SV → SV → SV → SV → SV → Heap → (SV → SV → SV → SV → SV → Heap → Rs) → Rs := fun y1 y2 y3 y4 y5 H6 k7 =>
  o.len y1 fun x8 =>
  o.lss y5 x8 fun x9 =>
  (o.guard x9
  ((f97_j2 o K C k7 y1 y2 y3 y4 y5 (.bool true) H6))
  (o.len y2 fun x30 =>
  o.lss y5 x30 fun x31 =>
  (o.guard x31
  ((f97_j2 o K C k7 y1 y2 y3 y4 y5 (.bool true) H6))
  (o.gtr y4 (.int .u32 0) fun x32 =>
  (f97_j2 o K C k7 y1 y2 y3 y4 y5 x32 H6))
  (none)))
  (none))
def f97 (o : Ops) (K : Nat) (C : CallC) (a0 a1 : SV) (H : Heap) : Rs :=
  (o.loop5 (f97_l1 o K C) K a0 a1 (.slice nilSl) (.int .u32 0) (.int .i64 0) H)
/-- parquet/parquetref01.Cmp -/
def f98_l3 (o : Ops) (K : Nat) (C : CallC) : SV → SV → SV → Heap → (SV → SV → SV → Heap → Rs) → Rs := fun y11 y12 y13 H14 k15 =>
  o.geq y13 (.int .i64 0) fun x16 =>
  (o.cond x16
  (o.idx 1 y11 y13 fun x17 =>
  o.load 1 false x17 H14 fun x18 =>
  o.idx 1 y12 y13 fun x19 =>
  o.load 1 false x19 H14 fun x20 =>
  o.lss x18 x20 fun x21 =>
  (o.cond x21
  (some ((.int .i64 (-1)), H14))
  (o.idx 1 y11 y13 fun x23 =>
  o.load 1 false x23 H14 fun x24 =>
  o.idx 1 y12 y13 fun x25 =>
  o.load 1 false x25 H14 fun x26 =>
  o.gtr x24 x26 fun x27 =>
  (o.cond x27
  (some ((.int .i64 1), H14))
  (o.sub y13 (.int .i64 1) fun x29 =>
  k15 y11 y12 x29 H14)))))
  (some ((.int .i64 0), H14)))
def f98 (o : Ops) (K : Nat) (C : CallC) (a0 a1 : SV) (H : Heap) : Rs :=
  o.len a0 fun x1 =>
  o.len a1 fun x2 =>
  o.neq x1 x2 fun x3 =>
  (o.cond x3
  (o.len a0 fun x4 =>
  o.len a1 fun x5 =>
  o.lss x4 x5 fun x6 =>
  (o.cond x6
  (some ((.int .i64 (-1)), H))
  (some ((.int .i64 1), H))))
  (o.len a0 fun x9 =>
  o.sub x9 (.int .i64 1) fun x10 =>
  (o.loop3 (f98_l3 o K C) K a0 a1 x10 H)))
/-- parquet/parquetref01.Sub -/
def f99_j3 (o : Ops) (K : Nat) (C : CallC) (k7 : SV → SV → SV → SV → SV → Heap → Rs) (q3_0 q3_1 q3_5 q3_7 q3_8 : SV) (H3_0 : Heap) : Rs :=
  o.rem q3_8 (.int .u32 65536) fun x19 =>
  o.hbuild 1 [.int .u32 0] [(0, 1)] [x19] H3_0 fun x20 H21 =>
  o.append 1 4 q3_5 x20 H21 fun x22 H23 =>
  o.quo q3_8 (.int .u32 65536) fun x24 =>
  o.sub (.int .u32 1) x24 fun x25 =>
  o.add q3_7 (.int .i64 1) fun x26 =>
  k7 q3_0 q3_1 x22 x25 x26 H23
def f99_l1 (o : Ops) (K : Nat) (C : CallC) : SV → SV → SV → SV → SV → Heap → (SV → SV → SV → SV → SV → Heap → Rs) → Rs := fun y1 y2 y3 y4 y5 H6 k7 =>
  o.len y1 fun x8 =>
  o.lss y5 x8 fun x9 =>
  (o.cond x9
  (o.idx 1 y1 y5 fun x10 =>
  o.load 1 false x10 H6 fun x11 =>
  o.add x11 (.int .u32 65536) fun x12 =>
  o.sub x12 y4 fun x13 =>
  o.len y2 fun x14 =>
  o.lss y5 x14 fun x15 =>
  (o.cond x15
  (o.idx 1 y2 y5 fun x16 =>
  o.load 1 false x16 H6 fun x17 =>
  o.sub x13 x17 fun x18 =>
  (f99_j3 o K C k7 y1 y2 y3 y5 x18 H6))
  ((f99_j3 o K C k7 y1 y2 y3 y5 x13 H6))))
  (o.call (C 105 [y3] H6) fun x27 H28 =>
  o.rest x27 fun r29 =>
  some (r29, H28)))
def f99 (o : Ops) (K : Nat) (C : CallC) (a0 a1 : SV) (H : Heap) : Rs :=
  (o.loop5 (f99_l1 o K C) K a0 a1 (.slice nilSl) (.int .u32 0) (.int .i64 0) H)
/-- parquet/parquetref01.Div -/
def f100_j5 (o : Ops) (K : Nat) (C : CallC) (k30 : SV → SV → SV → SV → SV → SV → SV → Heap → Rs) (q5_0 q5_1 q5_6 q5_7 q5_8 q5_9 q5_10 : SV) (H5_0 : Heap) : Rs :=
  k30 q5_0 q5_1 q5_6 q5_7 q5_8 q5_9 q5_10 H5_0
def f100_l3 (o : Ops) (K : Nat) (C : CallC) (k12 : SV → SV → SV → SV → SV → Heap → Rs) : SV → SV → SV → SV → SV → SV → SV → Heap → (SV → SV → SV → SV → SV → SV → SV → Heap → Rs) → Rs := fun y22 y23 y24 y25 y26 y27 y28 H29 k30 =>
  o.sub y28 y27 fun x31 =>
  o.gtr x31 (.int .u64 1) fun x32 =>
  (o.cond x32
  (o.add y27 y28 fun x33 =>
  o.quo x33 (.int .u64 2) fun x34 =>
  o.call (C 95 [x34] H29) fun x35 H36 =>
  o.call (C 96 [x35, y23] H36) fun x37 H38 =>
  o.call (C 98 [x37, y25] H38) fun x39 H40 =>
  o.leq x39 (.int .i64 0) fun x41 =>
  (o.cond x41
  ((f100_j5 o K C k30 y22 y23 y24 y25 y26 x34 y28 H40))
  ((f100_j5 o K C k30 y22 y23 y24 y25 y26 y27 x34 H40))))
  (o.conv .u32 y27 fun x42 =>
  o.idx 1 y24 y26 fun x43 =>
  o.store 1 x43 x42 H29 fun H45 =>
  o.call (C 95 [y27] H45) fun x46 H47 =>
  o.call (C 96 [x46, y23] H47) fun x48 H49 =>
  o.call (C 99 [y25, x48] H49) fun x50 H51 =>
  o.sub y26 (.int .i64 1) fun x52 =>
  k12 y22 y23 y24 x50 x52 H51))
def f100_l1 (o : Ops) (K : Nat) (C : CallC) : SV → SV → SV → SV → SV → Heap → (SV → SV → SV → SV → SV → Heap → Rs) → Rs := fun y6 y7 y8 y9 y10 H11 k12 =>
  o.geq y10 (.int .i64 0) fun x13 =>
  (o.cond x13
  (o.idx 1 y6 y10 fun x14 =>
  o.load 1 false x14 H11 fun x15 =>
  o.hbuild 1 [.int .u32 0] [(0, 1)] [x15] H11 fun x16 H17 =>
  o.append 1 4 x16 y9 H17 fun x18 H19 =>
  o.call (C 105 [x18] H19) fun x20 H21 =>
  (o.loop7 (f100_l3 o K C k12) K y6 y7 y8 x20 y10 (.int .u64 0) (.int .u64 65536) H21))
  (o.call (C 105 [y8] H11) fun x53 H54 =>
  o.rest x53 fun r55 =>
  o.rest y9 fun r56 =>
  some (.tuple [r55, r56], H54)))
def f100 (o : Ops) (K : Nat) (C : CallC) (a0 a1 : SV) (H : Heap) : Rs :=
  o.len a0 fun x1 =>
  o.make 1 4 [.int .u32 0] x1 x1 H fun x2 H3 =>
  o.len a0 fun x4 =>
  o.sub x4 (.int .i64 1) fun x5 =>
  (o.loop5 (f100_l1 o K C) K a0 a1 x2 (.slice nilSl) x5 H3)
/-- parquet/zint.Quo -/
def f101_j3 (o : Ops) (K : Nat) (C : CallC) (q3_2 q3_3 q3_4 q3_5 q3_7 q3_8 : SV) (H3_0 : Heap) : Rs :=
  o.lfld 0 q3_2 fun x44 =>
  o.lloadp 1 false q3_2 x44 fun x45 =>
  o.lfld 0 q3_3 fun x46 =>
  o.lloadp 1 false q3_3 x46 fun x47 =>
  o.b_neq x45 x47 fun x48 =>
  o.lload 0 1 true q3_7 fun x49 =>
  o.call (C 89 [x48, x49] H3_0) fun x50 H51 =>
  o.lload 0 1 true q3_8 fun x52 =>
  o.call (C 89 [(.bool false), x52] H51) fun x53 H54 =>
  o.bstore 0 2 q3_4 x50 fun c55 =>
  o.bstore 0 2 q3_5 x53 fun c56 =>
  o.resc 2 true (.box c55) fun r57 =>
  o.resc 2 true (.box c56) fun r58 =>
  some (.tuple [r57, r58, (.int .i64 0)], H54)
def f101_j2 (o : Ops) (K : Nat) (C : CallC) (q2_2 q2_3 q2_4 q2_5 q2_7 q2_8 q2_29 : SV) (H2_0 : Heap) : Rs :=
  (o.cond q2_29
  (o.lload 0 1 true q2_7 fun x28 =>
  o.call (C 56 [(.int .u64 1)] H2_0) fun x29 H30 =>
  o.call (C 90 [x28, x29] H30) fun x31 H32 =>
  o.ext 0 x31 fun x33 =>
  o.ext 1 x31 fun x34 =>
  o.bstore 0 1 q2_7 x33 fun c35 =>
  o.lfld 1 q2_3 fun x36 =>
  o.lloadp 1 true q2_3 x36 fun x37 =>
  o.lload 0 1 true q2_8 fun x38 =>
  o.call (C 91 [x37, x38] H32) fun x39 H40 =>
  o.ext 0 x39 fun x41 =>
  o.ext 1 x39 fun x42 =>
  o.bstore 0 1 q2_8 x41 fun c43 =>
  (f101_j3 o K C q2_2 q2_3 q2_4 q2_5 (.box c35) (.box c43) H40))
  ((f101_j3 o K C q2_2 q2_3 q2_4 q2_5 q2_7 q2_8 H2_0)))
def f101 (o : Ops) (K : Nat) (C : CallC) (a0 a1 : SV) (H : Heap) : Rs :=
  o.bbox a0 fun c1 =>
  o.bbox a1 fun c2 =>
  o.lfld 1 (.box c1) fun x3 =>
  o.lloadp 1 true (.box c1) x3 fun x4 =>
  o.lfld 1 (.box c2) fun x5 =>
  o.lloadp 1 true (.box c2) x5 fun x6 =>
  o.call (C 106 [x4, x6] H) fun x7 H8 =>
  o.ext 0 x7 fun x9 =>
  o.ext 1 x7 fun x10 =>
  o.ext 2 x7 fun x11 =>
  o.bstore 0 1 (.box [.slice nilSl]) x9 fun c12 =>
  o.bstore 0 1 (.box [.slice nilSl]) x10 fun c13 =>
  o.neq x11 (.int .i64 0) fun x14 =>
  (o.cond x14
  (o.build [.bool false, .slice nilSl] [] [] fun x15 =>
  o.build [.bool false, .slice nilSl] [] [] fun x16 =>
  o.bstore 0 2 (.box [.bool false, .slice nilSl]) x15 fun c17 =>
  o.bstore 0 2 (.box [.bool false, .slice nilSl]) x16 fun c18 =>
  o.resc 2 true (.box c17) fun r19 =>
  o.resc 2 true (.box c18) fun r20 =>
  o.rest x11 fun r21 =>
  some (.tuple [r19, r20, r21], H8))
  (o.lfld 0 (.box c1) fun x22 =>
  o.lloadp 1 false (.box c1) x22 fun x23 =>
  (o.guard x23
  (o.lload 0 1 true (.box c13) fun x24 =>
  o.call (C 32 [x24] H8) fun x25 H26 =>
  o.gtr x25 (.int .i64 0) fun x27 =>
  (f101_j2 o K C (.box c1) (.box c2) (.box [.bool false, .slice nilSl]) (.box [.bool false, .slice nilSl]) (.box c12) (.box c13) x27 H26))
  ((f101_j2 o K C (.box c1) (.box c2) (.box [.bool false, .slice nilSl]) (.box [.bool false, .slice nilSl]) (.box c12) (.box c13) (.bool false) H8))
  (none))))
/-- math/bits.Len -/
def f102 (o : Ops) (K : Nat) (C : CallC) (a0 : SV) (H : Heap) : Rs :=
  o.call (C 107 [a0] H) fun x1 H2 =>
  o.rest x1 fun r3 =>
  some (r3, H2)
/-- parquet/nat.less -/
def f103_j3 (o : Ops) (K : Nat) (C : CallC) (k8 : SV → SV → SV → SV → SV → Heap → Rs) (q3_0 q3_1 q3_4 q3_5 q3_6 q3_8 q3_9 : SV) (H3_0 : Heap) : Rs :=
  o.idx 1 q3_0 q3_5 fun x14 =>
  o.load 1 false x14 H3_0 fun x15 =>
  o.call (C 108 [x15, q3_6, q3_4] H3_0) fun x16 H17 =>
  o.ext 0 x16 fun x18 =>
  o.ext 1 x16 fun x19 =>
  o.idx 1 q3_0 q3_5 fun x20 =>
  o.store 1 x20 x18 H17 fun H22 =>
  o.add q3_9 (.int .i64 1) fun x23 =>
  k8 q3_0 q3_1 x19 q3_8 x23 H22
def f103_j5 (o : Ops) (K : Nat) (C : CallC) (H5_0 : Heap) : Rs :=
  some (.tuple [], H5_0)
def f103_l1 (o : Ops) (K : Nat) (C : CallC) : SV → SV → SV → SV → SV → Heap → (SV → SV → SV → SV → SV → Heap → Rs) → Rs := fun y2 y3 y4 y5 y6 H7 k8 =>
  o.lss y6 y5 fun x9 =>
  (o.cond x9
  (o.len y3 fun x10 =>
  o.lss y6 x10 fun x11 =>
  (o.cond x11
  (o.idx 1 y3 y6 fun x12 =>
  o.load 1 false x12 H7 fun x13 =>
  (f103_j3 o K C k8 y2 y3 y4 y6 x13 y5 y6 H7))
  (o.eql y4 (.int .u32 0) fun x24 =>
  (o.cond x24
  ((f103_j5 o K C H7))
  ((f103_j3 o K C k8 y2 y3 y4 y6 (.int .u32 0) y5 y6 H7))))))
  ((f103_j5 o K C H7)))
def f103 (o : Ops) (K : Nat) (C : CallC) (a0 a1 : SV) (H : Heap) : Rs :=
  o.len a0 fun x1 =>
  (o.loop5 (f103_l1 o K C) K a0 a1 (.int .u32 0) x1 (.int .i64 0) H)
/-- parquet/parquetref05.steps -/
def f104_j13 (o : Ops) (K : Nat) (C : CallC) (k31 : SV → SV → SV → SV → SV → SV → SV → Heap → Rs) (q13_0 q13_3 q13_4 q13_6 q13_7 q13_8 q13_9 : SV) (H13_0 : Heap) : Rs :=
  o.add q13_9 (.int .i64 1) fun x59 =>
  k31 q13_0 q13_3 q13_4 q13_6 q13_7 q13_8 x59 H13_0
def f104_l18 (o : Ops) (K : Nat) (C : CallC) (k82 : SV → SV → SV → SV → SV → SV → SV → SV → Heap → Rs) : SV → SV → SV → SV → SV → SV → SV → SV → SV → Heap → (SV → SV → SV → SV → SV → SV → SV → SV → SV → Heap → Rs) → Rs := fun y86 y87 y88 y89 y90 y91 y92 y93 y94 H95 k96 =>
  o.idx 1 y88 y93 fun x97 =>
  o.load 1 false x97 H95 fun x98 =>
  o.len x98 fun x99 =>
  o.lss y94 x99 fun x100 =>
  (o.cond x100
  (o.idx 1 y88 y91 fun x101 =>
  o.load 1 false x101 H95 fun x102 =>
  o.idx 2 x102 y92 fun x103 =>
  o.load 2 true x103 H95 fun x104 =>
  o.idx 1 y88 y93 fun x105 =>
  o.load 1 false x105 H95 fun x106 =>
  o.idx 2 x106 y94 fun x107 =>
  o.load 2 true x107 H95 fun x108 =>
  o.call (C 68 [x104, x108] H95) fun x109 H110 =>
  o.bstore 0 2 (.box [.bool false, .slice nilSl]) x109 fun c111 =>
  o.idx 1 y88 y93 fun x112 =>
  o.load 1 false x112 H110 fun x113 =>
  o.idx 2 x113 y92 fun x114 =>
  o.load 2 true x114 H110 fun x115 =>
  o.idx 1 y88 y91 fun x116 =>
  o.load 1 false x116 H110 fun x117 =>
  o.idx 2 x117 y94 fun x118 =>
  o.load 2 true x118 H110 fun x119 =>
  o.call (C 68 [x115, x119] H110) fun x120 H121 =>
  o.bstore 0 2 (.box [.bool false, .slice nilSl]) x120 fun c122 =>
  o.idx 1 y88 y93 fun x123 =>
  o.load 1 false x123 H121 fun x124 =>
  o.lload 0 2 true (.box c111) fun x125 =>
  o.lload 0 2 true (.box c122) fun x126 =>
  o.call (C 111 [x126] H121) fun x127 H128 =>
  o.call (C 69 [x125, x127] H128) fun x129 H130 =>
  o.lload 0 2 true y89 fun x131 =>
  o.call (C 110 [x129, x131] H130) fun x132 H133 =>
  o.idx 2 x124 y94 fun x134 =>
  o.store 2 x134 x132 H133 fun H136 =>
  (o.same x123 H121 H128 ((o.same x123 H128 H130 ((o.same x123 H130 H133 (o.add y94 (.int .i64 1) fun x137 =>
  k96 y86 y87 y88 y89 y90 y91 y92 y93 x137 H136)))))))
  (o.idx 1 y88 y93 fun x138 =>
  o.load 1 false x138 H95 fun x139 =>
  o.build [.bool false, .slice nilSl] [] [] fun x140 =>
  o.idx 2 x139 y92 fun x141 =>
  o.store 2 x141 x140 H95 fun H143 =>
  o.add y93 (.int .i64 1) fun x144 =>
  k82 y86 y87 y88 y89 y90 y91 y92 x144 H143))
def f104_l16 (o : Ops) (K : Nat) (C : CallC) (k31 : SV → SV → SV → SV → SV → SV → SV → Heap → Rs) : SV → SV → SV → SV → SV → SV → SV → SV → Heap → (SV → SV → SV → SV → SV → SV → SV → SV → Heap → Rs) → Rs := fun y73 y74 y75 y76 y77 y78 y79 y80 H81 k82 =>
  o.len y75 fun x83 =>
  o.lss y80 x83 fun x84 =>
  (o.cond x84
  (o.add y79 (.int .i64 1) fun x85 =>
  (o.loop9 (f104_l18 o K C k82) K y73 y74 y75 y76 y77 y78 y79 y80 x85 H81))
  (o.idx 1 y75 y78 fun x145 =>
  o.load 1 false x145 H81 fun x146 =>
  o.idx 2 x146 y79 fun x147 =>
  o.load 2 true x147 H81 fun x148 =>
  o.bstore 0 2 y76 x148 fun c149 =>
  o.add y78 (.int .i64 1) fun x150 =>
  (f104_j13 o K C k31 y73 y74 y75 (.box c149) y77 x150 y79 H81)))
def f104_j15 (o : Ops) (K : Nat) (C : CallC) (k31 : SV → SV → SV → SV → SV → SV → SV → Heap → Rs) (q15_0 q15_3 q15_4 q15_6 q15_7 q15_8 q15_9 : SV) (H15_0 : Heap) : Rs :=
  o.add q15_8 (.int .i64 1) fun x72 =>
  (o.loop8 (f104_l16 o K C k31) K q15_0 q15_3 q15_4 q15_6 q15_7 q15_8 q15_9 x72 H15_0)
def f104_j9 (o : Ops) (K : Nat) (C : CallC) (k31 : SV → SV → SV → SV → SV → SV → SV → Heap → Rs) (k46 : SV → SV → SV → SV → SV → SV → SV → SV → Heap → Rs) (q9_0 q9_3 q9_4 q9_6 q9_7 q9_8 q9_9 q9_10 q9_59 : SV) (H9_0 : Heap) : Rs :=
  (o.cond q9_59
  (o.add q9_10 (.int .i64 1) fun x56 =>
  k46 q9_0 q9_3 q9_4 q9_6 q9_7 q9_8 q9_9 x56 H9_0)
  (o.len q9_4 fun x57 =>
  o.eql q9_10 x57 fun x58 =>
  (o.cond x58
  ((f104_j13 o K C k31 q9_0 q9_3 q9_4 q9_6 q9_7 q9_8 q9_9 H9_0))
  (o.neq q9_10 q9_8 fun x60 =>
  (o.cond x60
  (o.idx 1 q9_4 q9_8 fun x61 =>
  o.load 1 false x61 H9_0 fun x62 =>
  o.idx 1 q9_4 q9_10 fun x63 =>
  o.load 1 false x63 H9_0 fun x64 =>
  o.idx 1 q9_4 q9_10 fun x65 =>
  o.store 1 x65 x62 H9_0 fun H67 =>
  o.idx 1 q9_4 q9_8 fun x68 =>
  o.store 1 x68 x64 H67 fun H70 =>
  o.u_not q9_7 fun x71 =>
  (f104_j15 o K C k31 q9_0 q9_3 q9_4 q9_6 x71 q9_8 q9_9 H70))
  ((f104_j15 o K C k31 q9_0 q9_3 q9_4 q9_6 q9_7 q9_8 q9_9 H9_0)))))))
def f104_l8 (o : Ops) (K : Nat) (C : CallC) (k31 : SV → SV → SV → SV → SV → SV → SV → Heap → Rs) : SV → SV → SV → SV → SV → SV → SV → SV → Heap → (SV → SV → SV → SV → SV → SV → SV → SV → Heap → Rs) → Rs := fun y37 y38 y39 y40 y41 y42 y43 y44 H45 k46 =>
  o.len y39 fun x47 =>
  o.lss y44 x47 fun x48 =>
  (o.guard x48
  (o.idx 1 y39 y44 fun x49 =>
  o.load 1 false x49 H45 fun x50 =>
  o.idx 2 x50 y43 fun x51 =>
  o.fld 1 x51 fun x52 =>
  o.load 1 false x52 H45 fun x53 =>
  o.len x53 fun x54 =>
  o.eql x54 (.int .i64 0) fun x55 =>
  (f104_j9 o K C k31 k46 y37 y38 y39 y40 y41 y42 y43 y44 x55 H45))
  ((f104_j9 o K C k31 k46 y37 y38 y39 y40 y41 y42 y43 y44 (.bool false) H45))
  (none))
def f104_j6 (o : Ops) (K : Nat) (C : CallC) (k31 : SV → SV → SV → SV → SV → SV → SV → Heap → Rs) (q6_0 q6_3 q6_4 q6_6 q6_7 q6_8 q6_9 q6_40 : SV) (H6_0 : Heap) : Rs :=
  (o.cond q6_40
  ((o.loop8 (f104_l8 o K C k31) K q6_0 q6_3 q6_4 q6_6 q6_7 q6_8 q6_9 q6_8 H6_0))
  (o.len q6_4 fun x151 =>
  o.lss q6_8 x151 fun x152 =>
  (o.cond x152
  (o.build [.bool false, .slice nilSl] [] [] fun x153 =>
  o.bstore 0 2 q6_3 x153 fun c154 =>
  o.rest q6_8 fun r155 =>
  o.resc 2 true (.box c154) fun r156 =>
  some (.tuple [r155, r156], H6_0))
  ((o.cond q6_7
  (o.lload 0 2 true q6_6 fun x157 =>
  o.call (C 111 [x157] H6_0) fun x158 H159 =>
  o.bstore 0 2 q6_3 x158 fun c160 =>
  o.rest q6_8 fun r161 =>
  o.resc 2 true (.box c160) fun r162 =>
  some (.tuple [r161, r162], H159))
  (o.lload 0 2 true q6_6 fun x163 =>
  o.bstore 0 2 q6_3 x163 fun c164 =>
  o.rest q6_8 fun r165 =>
  o.resc 2 true (.box c164) fun r166 =>
  some (.tuple [r165, r166], H6_0)))))))
def f104_l5 (o : Ops) (K : Nat) (C : CallC) : SV → SV → SV → SV → SV → SV → SV → Heap → (SV → SV → SV → SV → SV → SV → SV → Heap → Rs) → Rs := fun y23 y24 y25 y26 y27 y28 y29 H30 k31 =>
  o.call (C 109 [y23] H30) fun x32 H33 =>
  o.lss y29 x32 fun x34 =>
  (o.guard x34
  (o.len y25 fun x35 =>
  o.lss y28 x35 fun x36 =>
  (f104_j6 o K C k31 y23 y24 y25 y26 y27 y28 y29 x36 H33))
  ((f104_j6 o K C k31 y23 y24 y25 y26 y27 y28 y29 (.bool false) H33))
  (none))
def f104_l1 (o : Ops) (K : Nat) (C : CallC) : SV → SV → SV → SV → Heap → (SV → SV → SV → SV → Heap → Rs) → Rs := fun y1 y2 y3 y4 H5 k6 =>
  o.len y1 fun x7 =>
  o.lss y4 x7 fun x8 =>
  (o.cond x8
  (o.hbuild 2 [] [] [] H5 fun x9 H10 =>
  o.idx 1 y1 y4 fun x11 =>
  o.load 1 false x11 H10 fun x12 =>
  o.append 2 32 x9 x12 H10 fun x13 H14 =>
  o.hbuild 1 [.slice nilSl] [(0, 1)] [x13] H14 fun x15 H16 =>
  o.append 1 24 y3 x15 H16 fun x17 H18 =>
  o.add y4 (.int .i64 1) fun x19 =>
  k6 y1 y2 x17 x19 H18)
  (o.call (C 67 [(.int .i64 1)] H5) fun x20 H21 =>
  o.bstore 0 2 (.box [.bool false, .slice nilSl]) x20 fun c22 =>
  (o.loop7 (f104_l5 o K C) K y1 y2 y3 (.box c22) (.bool false) (.int .i64 0) (.int .i64 0) H21)))
def f104 (o : Ops) (K : Nat) (C : CallC) (a0 : SV) (H : Heap) : Rs :=
  (o.loop4 (f104_l1 o K C) K a0 (.box [.bool false, .slice nilSl]) (.slice nilSl) (.int .i64 0) H)
/-- parquet/parquetref01.cut -/
def f105_j2 (o : Ops) (K : Nat) (C : CallC) (k5 : SV → SV → Heap → Rs) (q2_0 q2_3 q2_15 : SV) (H2_0 : Heap) : Rs :=
  (o.cond q2_15
  (o.sub q2_3 (.int .i64 1) fun x11 =>
  k5 q2_0 x11 H2_0)
  (o.slice010 1 q2_0 q2_3 H2_0 fun x12 =>
  o.rest x12 fun r13 =>
  some (r13, H2_0)))
def f105_l1 (o : Ops) (K : Nat) (C : CallC) : SV → SV → Heap → (SV → SV → Heap → Rs) → Rs := fun y2 y3 H4 k5 =>
  o.gtr y3 (.int .i64 0) fun x6 =>
  (o.guard x6
  (o.sub y3 (.int .i64 1) fun x7 =>
  o.idx 1 y2 x7 fun x8 =>
  o.load 1 false x8 H4 fun x9 =>
  o.eql x9 (.int .u32 0) fun x10 =>
  (f105_j2 o K C k5 y2 y3 x10 H4))
  ((f105_j2 o K C k5 y2 y3 (.bool false) H4))
  (none))
def f105 (o : Ops) (K : Nat) (C : CallC) (a0 : SV) (H : Heap) : Rs :=
  o.len a0 fun x1 =>
  (o.loop2 (f105_l1 o K C) K a0 x1 H)
/-- parquet/nat.Div -/
def f106 (o : Ops) (K : Nat) (C : CallC) (a0 a1 : SV) (H : Heap) : Rs :=
  o.bbox a0 fun c1 =>
  o.bbox a1 fun c2 =>
  o.lfld 0 (.box c2) fun x3 =>
  o.lloadp 1 false (.box c2) x3 fun x4 =>
  o.len x4 fun x5 =>
  o.eql x5 (.int .i64 0) fun x6 =>
  (o.cond x6
  (o.build [.slice nilSl] [] [] fun x7 =>
  o.build [.slice nilSl] [] [] fun x8 =>
  o.bstore 0 1 (.box [.slice nilSl]) x7 fun c9 =>
  o.bstore 0 1 (.box [.slice nilSl]) x8 fun c10 =>
  o.resc 1 true (.box c9) fun r11 =>
  o.resc 1 true (.box c10) fun r12 =>
  some (.tuple [r11, r12, (.int .i64 11)], H))
  (o.lload 0 1 true (.box c1) fun x14 =>
  o.lload 0 1 true (.box c2) fun x15 =>
  o.call (C 20 [x14, x15] H) fun x16 H17 =>
  o.lss x16 (.int .i64 0) fun x18 =>
  (o.cond x18
  (o.build [.slice nilSl] [] [] fun x19 =>
  o.lload 0 1 true (.box c1) fun x20 =>
  o.bstore 0 1 (.box [.slice nilSl]) x19 fun c21 =>
  o.bstore 0 1 (.box [.slice nilSl]) x20 fun c22 =>
  o.resc 1 true (.box c21) fun r23 =>
  o.resc 1 true (.box c22) fun r24 =>
  some (.tuple [r23, r24, (.int .i64 0)], H17))
  (o.lfld 0 (.box c2) fun x26 =>
  o.lloadp 1 false (.box c2) x26 fun x27 =>
  o.len x27 fun x28 =>
  o.eql x28 (.int .i64 1) fun x29 =>
  (o.cond x29
  (o.lfld 0 (.box c1) fun x30 =>
  o.lloadp 1 false (.box c1) x30 fun x31 =>
  o.append 1 4 (.slice nilSl) x31 H17 fun x32 H33 =>
  o.lfld 0 (.box c2) fun x34 =>
  o.lloadp 1 false (.box c2) x34 fun x35 =>
  o.idx 1 x35 (.int .i64 0) fun x36 =>
  o.load 1 false x36 H33 fun x37 =>
  o.call (C 72 [x32, x37] H33) fun x38 H39 =>
  o.call (C 73 [x32] H39) fun x40 H41 =>
  o.conv .u64 x38 fun x42 =>
  o.call (C 56 [x42] H41) fun x43 H44 =>
  o.bstore 0 1 (.box [.slice nilSl]) x40 fun c45 =>
  o.bstore 0 1 (.box [.slice nilSl]) x43 fun c46 =>
  o.resc 1 true (.box c45) fun r47 =>
  o.resc 1 true (.box c46) fun r48 =>
  some (.tuple [r47, r48, (.int .i64 0)], H44))
  (o.lload 0 1 true (.box c1) fun x50 =>
  o.lload 0 1 true (.box c2) fun x51 =>
  o.call (C 112 [x50, x51] H17) fun x52 H53 =>
  o.ext 0 x52 fun x54 =>
  o.ext 1 x52 fun x55 =>
  o.bstore 0 1 (.box [.slice nilSl]) x54 fun c56 =>
  o.bstore 0 1 (.box [.slice nilSl]) x55 fun c57 =>
  o.lload 0 1 true (.box c56) fun x58 =>
  o.lload 0 1 true (.box c57) fun x59 =>
  o.bstore 0 1 (.box c56) x58 fun c60 =>
  o.bstore 0 1 (.box c57) x59 fun c61 =>
  o.resc 1 true (.box c60) fun r62 =>
  o.resc 1 true (.box c61) fun r63 =>
  some (.tuple [r62, r63, (.int .i64 0)], H53)))))))
/-- math/bits.Len64 -/
def f107_j3 (o : Ops) (K : Nat) (C : CallC) (q3_0 q3_2 : SV) (H3_0 : Heap) : Rs :=
  o.conv .u8 q3_0 fun x9 =>
  o.stridx (.str [0, 1, 2, 2, 3, 3, 3, 3, 4, 4, 4, 4, 4, 4, 4, 4, 5, 5, 5, 5, 5, 5, 5, 5, 5, 5, 5, 5, 5, 5, 5, 5, 6, 6, 6, 6, 6, 6, 6, 6, 6, 6, 6, 6, 6, 6, 6, 6, 6, 6, 6, 6, 6, 6, 6, 6, 6, 6, 6, 6, 6, 6, 6, 6, 7, 7, 7, 7, 7, 7, 7, 7, 7, 7, 7, 7, 7, 7, 7, 7, 7, 7, 7, 7, 7, 7, 7, 7, 7, 7, 7, 7, 7, 7, 7, 7, 7, 7, 7, 7, 7, 7, 7, 7, 7, 7, 7, 7, 7, 7, 7, 7, 7, 7, 7, 7, 7, 7, 7, 7, 7, 7, 7, 7, 7, 7, 7, 7, 8, 8, 8, 8, 8, 8, 8, 8, 8, 8, 8, 8, 8, 8, 8, 8, 8, 8, 8, 8, 8, 8, 8, 8, 8, 8, 8, 8, 8, 8, 8, 8, 8, 8, 8, 8, 8, 8, 8, 8, 8, 8, 8, 8, 8, 8, 8, 8, 8, 8, 8, 8, 8, 8, 8, 8, 8, 8, 8, 8, 8, 8, 8, 8, 8, 8, 8, 8, 8, 8, 8, 8, 8, 8, 8, 8, 8, 8, 8, 8, 8, 8, 8, 8, 8, 8, 8, 8, 8, 8, 8, 8, 8, 8, 8, 8, 8, 8, 8, 8, 8, 8, 8, 8, 8, 8, 8, 8, 8, 8, 8, 8, 8, 8, 8, 8, 8, 8, 8, 8, 8, 8, 8, 8, 8, 8, 8, 8]) x9 fun x10 =>
  o.conv .i64 x10 fun x11 =>
  o.add q3_2 x11 fun x12 =>
  o.rest x12 fun r13 =>
  some (r13, H3_0)
def f107_j2 (o : Ops) (K : Nat) (C : CallC) (q2_0 q2_2 : SV) (H2_0 : Heap) : Rs :=
  o.geq q2_0 (.int .u64 256) fun x6 =>
  (o.cond x6
  (o.shr q2_0 (.int .u64 8) fun x7 =>
  o.add q2_2 (.int .i64 8) fun x8 =>
  (f107_j3 o K C x7 x8 H2_0))
  ((f107_j3 o K C q2_0 q2_2 H2_0)))
def f107_j1 (o : Ops) (K : Nat) (C : CallC) (q1_0 q1_2 : SV) (H1_0 : Heap) : Rs :=
  o.geq q1_0 (.int .u64 65536) fun x3 =>
  (o.cond x3
  (o.shr q1_0 (.int .u64 16) fun x4 =>
  o.add q1_2 (.int .i64 16) fun x5 =>
  (f107_j2 o K C x4 x5 H1_0))
  ((f107_j2 o K C q1_0 q1_2 H1_0)))
def f107 (o : Ops) (K : Nat) (C : CallC) (a0 : SV) (H : Heap) : Rs :=
  o.geq a0 (.int .u64 4294967296) fun x1 =>
  (o.cond x1
  (o.shr a0 (.int .u64 32) fun x2 =>
  (f107_j1 o K C x2 (.int .i64 32) H))
  ((f107_j1 o K C a0 (.int .i64 0) H)))
/-- math/bits.Sub32 -/
def f108 (o : Ops) (K : Nat) (C : CallC) (a0 a1 a2 : SV) (H : Heap) : Rs :=
  o.sub a0 a1 fun x1 =>
  o.sub x1 a2 fun x2 =>
  o.u_xor a0 fun x3 =>
  o.and x3 a1 fun x4 =>
  o.xor a0 a1 fun x5 =>
  o.u_xor x5 fun x6 =>
  o.and x6 x2 fun x7 =>
  o.or x4 x7 fun x8 =>
  o.shr x8 (.int .u64 31) fun x9 =>
  o.rest x2 fun r10 =>
  o.rest x9 fun r11 =>
  some (.tuple [r10, r11], H)
/-- parquet/parquetref05.Columns -/
def f109 (o : Ops) (K : Nat) (C : CallC) (a0 : SV) (H : Heap) : Rs :=
  o.len a0 fun x1 =>
  o.eql x1 (.int .i64 0) fun x2 =>
  (o.cond x2
  (some ((.int .i64 0), H))
  (o.idx 1 a0 (.int .i64 0) fun x4 =>
  o.load 1 false x4 H fun x5 =>
  o.len x5 fun x6 =>
  o.rest x6 fun r7 =>
  some (r7, H)))
/-- parquet/parquetref05.exact -/
def f110_j1 (o : Ops) (K : Nat) (C : CallC) (q1_4 : SV) (H1_0 : Heap) : Rs :=
  o.resc 2 true q1_4 fun r20 =>
  some (r20, H1_0)
def f110 (o : Ops) (K : Nat) (C : CallC) (a0 a1 : SV) (H : Heap) : Rs :=
  o.bbox a0 fun c1 =>
  o.bbox a1 fun c2 =>
  o.lfld 1 (.box c1) fun x3 =>
  o.lloadp 1 false (.box c1) x3 fun x4 =>
  o.lfld 1 (.box c2) fun x5 =>
  o.lloadp 1 false (.box c2) x5 fun x6 =>
  o.call (C 100 [x4, x6] H) fun x7 H8 =>
  o.ext 0 x7 fun x9 =>
  o.ext 1 x7 fun x10 =>
  o.lfld 0 (.box c1) fun x11 =>
  o.lloadp 1 false (.box c1) x11 fun x12 =>
  o.lfld 0 (.box c2) fun x13 =>
  o.lloadp 1 false (.box c2) x13 fun x14 =>
  o.b_neq x12 x14 fun x15 =>
  (o.guard x15
  (o.len x9 fun x16 =>
  o.gtr x16 (.int .i64 0) fun x17 =>
  o.build [.bool false, .slice nilSl] [(0, 1), (1, 1)] [x17, x9] fun x18 =>
  o.bstore 0 2 (.box [.bool false, .slice nilSl]) x18 fun c19 =>
  (f110_j1 o K C (.box c19) H8))
  (o.build [.bool false, .slice nilSl] [(0, 1), (1, 1)] [(.bool false), x9] fun x21 =>
  o.bstore 0 2 (.box [.bool false, .slice nilSl]) x21 fun c22 =>
  (f110_j1 o K C (.box c22) H8))
  (none))
/-- parquet/parquetref05.Neg -/
def f111_j1 (o : Ops) (K : Nat) (C : CallC) (q1_2 : SV) (H1_0 : Heap) : Rs :=
  o.resc 2 true q1_2 fun r13 =>
  some (r13, H1_0)
def f111 (o : Ops) (K : Nat) (C : CallC) (a0 : SV) (H : Heap) : Rs :=
  o.bbox a0 fun c1 =>
  o.lfld 0 (.box c1) fun x2 =>
  o.lloadp 1 false (.box c1) x2 fun x3 =>
  o.u_not x3 fun x4 =>
  (o.guard x4
  (o.lfld 1 (.box c1) fun x5 =>
  o.lloadp 1 false (.box c1) x5 fun x6 =>
  o.len x6 fun x7 =>
  o.gtr x7 (.int .i64 0) fun x8 =>
  o.lfld 1 (.box c1) fun x9 =>
  o.lloadp 1 false (.box c1) x9 fun x10 =>
  o.build [.bool false, .slice nilSl] [(0, 1), (1, 1)] [x8, x10] fun x11 =>
  o.bstore 0 2 (.box [.bool false, .slice nilSl]) x11 fun c12 =>
  (f111_j1 o K C (.box c12) H))
  (o.lfld 1 (.box c1) fun x14 =>
  o.lloadp 1 false (.box c1) x14 fun x15 =>
  o.build [.bool false, .slice nilSl] [(0, 1), (1, 1)] [(.bool false), x15] fun x16 =>
  o.bstore 0 2 (.box [.bool false, .slice nilSl]) x16 fun c17 =>
  (f111_j1 o K C (.box c17) H))
  (none))
/-- parquet/nat.long -/
def f112_j7 (o : Ops) (K : Nat) (C : CallC) (k42 : SV → SV → SV → SV → SV → SV → SV → SV → Heap → Rs) (q7_4 q7_5 q7_6 q7_7 q7_8 q7_9 q7_11 q7_12 : SV) (H7_0 : Heap) : Rs :=
  o.sub q7_12 (.int .i64 1) fun x100 =>
  k42 q7_4 q7_5 q7_6 q7_7 q7_8 q7_9 q7_11 x100 H7_0
def f112_j11 (o : Ops) (K : Nat) (C : CallC) (k120 : SV → SV → SV → SV → SV → SV → SV → SV → SV → SV → SV → SV → Heap → Rs) (q11_4 q11_5 q11_6 q11_7 q11_8 q11_9 q11_11 q11_12 q11_16 q11_17 q11_18 q11_156 q11_157 : SV) (H11_0 : Heap) : Rs :=
  o.conv .u32 q11_17 fun x131 =>
  o.idx 1 q11_16 q11_18 fun x132 =>
  o.store 1 x132 x131 H11_0 fun H134 =>
  o.shr q11_17 (.int .u64 32) fun x135 =>
  o.add q11_157 (.int .i64 1) fun x136 =>
  k120 q11_4 q11_5 q11_6 q11_7 q11_8 q11_9 q11_11 q11_12 q11_16 x135 q11_156 x136 H134
def f112_l9 (o : Ops) (K : Nat) (C : CallC) (k42 : SV → SV → SV → SV → SV → SV → SV → SV → Heap → Rs) : SV → SV → SV → SV → SV → SV → SV → SV → SV → SV → SV → SV → Heap → (SV → SV → SV → SV → SV → SV → SV → SV → SV → SV → SV → SV → Heap → Rs) → Rs := fun y107 y108 y109 y110 y111 y112 y113 y114 y115 y116 y117 y118 H119 k120 =>
  o.lss y118 y117 fun x121 =>
  (o.cond x121
  (o.idx 1 y115 y118 fun x122 =>
  o.load 1 false x122 H119 fun x123 =>
  o.conv .u64 x123 fun x124 =>
  o.add y116 x124 fun x125 =>
  o.lss y118 y109 fun x126 =>
  (o.cond x126
  (o.idx 1 y111 y118 fun x127 =>
  o.load 1 false x127 H119 fun x128 =>
  o.conv .u64 x128 fun x129 =>
  o.add x125 x129 fun x130 =>
  (f112_j11 o K C k120 y107 y108 y109 y110 y111 y112 y113 y114 y115 x130 y118 y117 y118 H119))
  ((f112_j11 o K C k120 y107 y108 y109 y110 y111 y112 y113 y114 y115 x125 y118 y117 y118 H119))))
  ((f112_j7 o K C k42 y107 y108 y109 y110 y111 y112 y113 y114 H119)))
def f112_j6 (o : Ops) (K : Nat) (C : CallC) (k42 : SV → SV → SV → SV → SV → SV → SV → SV → Heap → Rs) (q6_4 q6_5 q6_6 q6_7 q6_8 q6_9 q6_11 q6_12 q6_14 : SV) (H6_0 : Heap) : Rs :=
  o.add q6_12 q6_6 fun x87 =>
  o.add x87 (.int .i64 1) fun x88 =>
  o.add q6_12 q6_6 fun x89 =>
  o.add x89 (.int .i64 1) fun x90 =>
  o.slice111 1 q6_9 q6_12 x88 x90 H6_0 fun x91 =>
  o.conv .u32 q6_14 fun x92 =>
  o.call (C 115 [x91, q6_8, x92] H6_0) fun x93 H94 =>
  o.u_not x93 fun x95 =>
  (o.cond x95
  (o.conv .u32 q6_14 fun x96 =>
  o.idx 1 q6_11 q6_12 fun x97 =>
  o.store 1 x97 x96 H94 fun H99 =>
  (f112_j7 o K C k42 q6_4 q6_5 q6_6 q6_7 q6_8 q6_9 q6_11 q6_12 H99))
  (o.conv .u32 q6_14 fun x101 =>
  o.sub x101 (.int .u32 1) fun x102 =>
  o.idx 1 q6_11 q6_12 fun x103 =>
  o.store 1 x103 x102 H94 fun H105 =>
  o.len x91 fun x106 =>
  (o.loop12 (f112_l9 o K C k42) K q6_4 q6_5 q6_6 q6_7 q6_8 q6_9 q6_11 q6_12 x91 (.int .u64 0) x106 (.int .i64 0) H105)))
def f112_j4 (o : Ops) (K : Nat) (C : CallC) (k42 : SV → SV → SV → SV → SV → SV → SV → SV → Heap → Rs) (k76 : SV → SV → SV → SV → SV → SV → SV → SV → SV → SV → Heap → Rs) (q4_4 q4_5 q4_6 q4_7 q4_8 q4_9 q4_11 q4_12 q4_14 q4_15 q4_113 : SV) (H4_0 : Heap) : Rs :=
  (o.cond q4_113
  (o.sub q4_14 (.int .u64 1) fun x79 =>
  o.sub q4_6 (.int .i64 1) fun x80 =>
  o.idx 1 q4_8 x80 fun x81 =>
  o.load 1 false x81 H4_0 fun x82 =>
  o.conv .u64 x82 fun x83 =>
  o.add q4_15 x83 fun x84 =>
  o.shr x84 (.int .u64 32) fun x85 =>
  o.neq x85 (.int .u64 0) fun x86 =>
  (o.cond x86
  ((f112_j6 o K C k42 q4_4 q4_5 q4_6 q4_7 q4_8 q4_9 q4_11 q4_12 x79 H4_0))
  (k76 q4_4 q4_5 q4_6 q4_7 q4_8 q4_9 q4_11 q4_12 x79 x84 H4_0)))
  ((f112_j6 o K C k42 q4_4 q4_5 q4_6 q4_7 q4_8 q4_9 q4_11 q4_12 q4_14 H4_0)))
def f112_l3 (o : Ops) (K : Nat) (C : CallC) (k42 : SV → SV → SV → SV → SV → SV → SV → SV → Heap → Rs) : SV → SV → SV → SV → SV → SV → SV → SV → SV → SV → Heap → (SV → SV → SV → SV → SV → SV → SV → SV → SV → SV → Heap → Rs) → Rs := fun y65 y66 y67 y68 y69 y70 y71 y72 y73 y74 H75 k76 =>
  o.shr y73 (.int .u64 32) fun x77 =>
  o.neq x77 (.int .u64 0) fun x78 =>
  (o.guard x78
  ((f112_j4 o K C k42 k76 y65 y66 y67 y68 y69 y70 y71 y72 y73 y74 (.bool true) H75))
  (o.sub y67 (.int .i64 2) fun x137 =>
  o.idx 1 y69 x137 fun x138 =>
  o.load 1 false x138 H75 fun x139 =>
  o.conv .u64 x139 fun x140 =>
  o.mul y73 x140 fun x141 =>
  o.shl y74 (.int .u64 32) fun x142 =>
  o.add y72 y67 fun x143 =>
  o.sub x143 (.int .i64 2) fun x144 =>
  o.idx 1 y70 x144 fun x145 =>
  o.load 1 false x145 H75 fun x146 =>
  o.conv .u64 x146 fun x147 =>
  o.or x142 x147 fun x148 =>
  o.gtr x141 x148 fun x149 =>
  (f112_j4 o K C k42 k76 y65 y66 y67 y68 y69 y70 y71 y72 y73 y74 x149 H75))
  (none))
def f112_l1 (o : Ops) (K : Nat) (C : CallC) : SV → SV → SV → SV → SV → SV → SV → SV → Heap → (SV → SV → SV → SV → SV → SV → SV → SV → Heap → Rs) → Rs := fun y33 y34 y35 y36 y37 y38 y39 y40 H41 k42 =>
  o.geq y40 (.int .i64 0) fun x43 =>
  (o.cond x43
  (o.add y40 y35 fun x44 =>
  o.idx 1 y38 x44 fun x45 =>
  o.load 1 false x45 H41 fun x46 =>
  o.conv .u64 x46 fun x47 =>
  o.shl x47 (.int .u64 32) fun x48 =>
  o.add y40 y35 fun x49 =>
  o.sub x49 (.int .i64 1) fun x50 =>
  o.idx 1 y38 x50 fun x51 =>
  o.load 1 false x51 H41 fun x52 =>
  o.conv .u64 x52 fun x53 =>
  o.or x48 x53 fun x54 =>
  o.sub y35 (.int .i64 1) fun x55 =>
  o.idx 1 y37 x55 fun x56 =>
  o.load 1 false x56 H41 fun x57 =>
  o.conv .u64 x57 fun x58 =>
  o.quo x54 x58 fun x59 =>
  o.sub y35 (.int .i64 1) fun x60 =>
  o.idx 1 y37 x60 fun x61 =>
  o.load 1 false x61 H41 fun x62 =>
  o.conv .u64 x62 fun x63 =>
  o.rem x54 x63 fun x64 =>
  (o.loop10 (f112_l3 o K C k42) K y33 y34 y35 y36 y37 y38 y39 y40 x59 x64 H41))
  (o.call (C 73 [y39] H41) fun x150 H151 =>
  o.call (C 116 [y38, y36] H151) fun x152 H153 =>
  o.bstore 0 1 y33 x150 fun c154 =>
  o.bstore 0 1 y34 x152 fun c155 =>
  o.resc 1 true (.box c154) fun r156 =>
  o.resc 1 true (.box c155) fun r157 =>
  some (.tuple [r156, r157], H153)))
def f112 (o : Ops) (K : Nat) (C : CallC) (a0 a1 : SV) (H : Heap) : Rs :=
  o.bbox a0 fun c1 =>
  o.bbox a1 fun c2 =>
  o.lfld 0 (.box c2) fun x3 =>
  o.lloadp 1 false (.box c2) x3 fun x4 =>
  o.len x4 fun x5 =>
  o.lfld 0 (.box c2) fun x6 =>
  o.lloadp 1 false (.box c2) x6 fun x7 =>
  o.lfld 0 (.box c2) fun x8 =>
  o.lloadp 1 false (.box c2) x8 fun x9 =>
  o.len x9 fun x10 =>
  o.sub x10 (.int .i64 1) fun x11 =>
  o.idx 1 x7 x11 fun x12 =>
  o.load 1 false x12 H fun x13 =>
  o.call (C 113 [x13] H) fun x14 H15 =>
  o.lfld 0 (.box c2) fun x16 =>
  o.lloadp 1 false (.box c2) x16 fun x17 =>
  o.call (C 114 [x17, x14, x5] H15) fun x18 H19 =>
  o.lfld 0 (.box c1) fun x20 =>
  o.lloadp 1 false (.box c1) x20 fun x21 =>
  o.lfld 0 (.box c1) fun x22 =>
  o.lloadp 1 false (.box c1) x22 fun x23 =>
  o.len x23 fun x24 =>
  o.add x24 (.int .i64 1) fun x25 =>
  o.call (C 114 [x21, x14, x25] H19) fun x26 H27 =>
  o.len x26 fun x28 =>
  o.sub x28 x5 fun x29 =>
  o.make 1 4 [.int .u32 0] x29 x29 H27 fun x30 H31 =>
  o.sub x29 (.int .i64 1) fun x32 =>
  (o.loop8 (f112_l1 o K C) K (.box [.slice nilSl]) (.box [.slice nilSl]) x5 x14 x18 x26 x30 x32 H31)
/-- math/bits.LeadingZeros32 -/
def f113 (o : Ops) (K : Nat) (C : CallC) (a0 : SV) (H : Heap) : Rs :=
  o.call (C 71 [a0] H) fun x1 H2 =>
  o.sub (.int .i64 32) x1 fun x3 =>
  o.rest x3 fun r4 =>
  some (r4, H2)
/-- parquet/nat.up -/
def f114_j3 (o : Ops) (K : Nat) (C : CallC) (k11 : SV → SV → SV → SV → SV → SV → Heap → Rs) (q3_0 q3_1 q3_7 q3_8 q3_9 q3_13 q3_14 : SV) (H3_0 : Heap) : Rs :=
  o.conv .u32 q3_8 fun x20 =>
  o.idx 1 q3_7 q3_9 fun x21 =>
  o.store 1 x21 x20 H3_0 fun H23 =>
  o.shr q3_8 (.int .u64 32) fun x24 =>
  o.add q3_14 (.int .i64 1) fun x25 =>
  k11 q3_0 q3_1 q3_7 x24 q3_13 x25 H23
def f114_l1 (o : Ops) (K : Nat) (C : CallC) : SV → SV → SV → SV → SV → SV → Heap → (SV → SV → SV → SV → SV → SV → Heap → Rs) → Rs := fun y4 y5 y6 y7 y8 y9 H10 k11 =>
  o.lss y9 y8 fun x12 =>
  (o.cond x12
  (o.len y4 fun x13 =>
  o.lss y9 x13 fun x14 =>
  (o.cond x14
  (o.idx 1 y4 y9 fun x15 =>
  o.load 1 false x15 H10 fun x16 =>
  o.conv .u64 x16 fun x17 =>
  o.shl x17 y5 fun x18 =>
  o.or y7 x18 fun x19 =>
  (f114_j3 o K C k11 y4 y5 y6 x19 y9 y8 y9 H10))
  ((f114_j3 o K C k11 y4 y5 y6 y7 y9 y8 y9 H10))))
  (o.rest y6 fun r26 =>
  some (r26, H10)))
def f114 (o : Ops) (K : Nat) (C : CallC) (a0 a1 a2 : SV) (H : Heap) : Rs :=
  o.make 1 4 [.int .u32 0] a2 a2 H fun x1 H2 =>
  o.len x1 fun x3 =>
  (o.loop6 (f114_l1 o K C) K a0 a1 x1 (.int .u64 0) x3 (.int .i64 0) H2)
/-- parquet/nat.away -/
def f115_j3 (o : Ops) (K : Nat) (C : CallC) (k10 : SV → SV → SV → SV → SV → SV → SV → Heap → Rs) (q3_0 q3_1 q3_2 q3_7 q3_8 q3_9 q3_11 q3_12 : SV) (H3_0 : Heap) : Rs :=
  o.idx 1 q3_0 q3_9 fun x20 =>
  o.load 1 false x20 H3_0 fun x21 =>
  o.conv .u32 q3_7 fun x22 =>
  o.call (C 108 [x21, x22, q3_8] H3_0) fun x23 H24 =>
  o.ext 0 x23 fun x25 =>
  o.ext 1 x23 fun x26 =>
  o.idx 1 q3_0 q3_9 fun x27 =>
  o.store 1 x27 x25 H24 fun H29 =>
  o.shr q3_7 (.int .u64 32) fun x30 =>
  o.add q3_12 (.int .i64 1) fun x31 =>
  k10 q3_0 q3_1 q3_2 x30 x26 q3_11 x31 H29
def f115_l1 (o : Ops) (K : Nat) (C : CallC) : SV → SV → SV → SV → SV → SV → SV → Heap → (SV → SV → SV → SV → SV → SV → SV → Heap → Rs) → Rs := fun y2 y3 y4 y5 y6 y7 y8 H9 k10 =>
  o.lss y8 y7 fun x11 =>
  (o.cond x11
  (o.len y3 fun x12 =>
  o.lss y8 x12 fun x13 =>
  (o.cond x13
  (o.idx 1 y3 y8 fun x14 =>
  o.load 1 false x14 H9 fun x15 =>
  o.conv .u64 x15 fun x16 =>
  o.conv .u64 y4 fun x17 =>
  o.mul x16 x17 fun x18 =>
  o.add y5 x18 fun x19 =>
  (f115_j3 o K C k10 y2 y3 y4 x19 y6 y8 y7 y8 H9))
  ((f115_j3 o K C k10 y2 y3 y4 y5 y6 y8 y7 y8 H9))))
  (o.neq y6 (.int .u32 0) fun x32 =>
  o.rest x32 fun r33 =>
  some (r33, H9)))
def f115 (o : Ops) (K : Nat) (C : CallC) (a0 a1 a2 : SV) (H : Heap) : Rs :=
  o.len a0 fun x1 =>
  (o.loop7 (f115_l1 o K C) K a0 a1 a2 (.int .u64 0) (.int .u32 0) x1 (.int .i64 0) H)
/-- parquet/nat.down -/
def f116_j3 (o : Ops) (K : Nat) (C : CallC) (k12 : SV → SV → SV → SV → SV → SV → Heap → Rs) (q3_0 q3_1 q3_4 q3_5 q3_6 q3_7 q3_12 q3_13 : SV) (H3_0 : Heap) : Rs :=
  o.shr q3_7 q3_1 fun x26 =>
  o.conv .u32 x26 fun x27 =>
  o.idx 1 q3_5 q3_6 fun x28 =>
  o.store 1 x28 x27 H3_0 fun H30 =>
  o.add q3_13 (.int .i64 1) fun x31 =>
  k12 q3_0 q3_1 q3_4 q3_5 q3_12 x31 H30
def f116_l1 (o : Ops) (K : Nat) (C : CallC) : SV → SV → SV → SV → SV → SV → Heap → (SV → SV → SV → SV → SV → SV → Heap → Rs) → Rs := fun y5 y6 y7 y8 y9 y10 H11 k12 =>
  o.lss y10 y9 fun x13 =>
  (o.cond x13
  (o.idx 1 y5 y10 fun x14 =>
  o.load 1 false x14 H11 fun x15 =>
  o.conv .u64 x15 fun x16 =>
  o.add y10 (.int .i64 1) fun x17 =>
  o.len y5 fun x18 =>
  o.lss x17 x18 fun x19 =>
  (o.cond x19
  (o.add y10 (.int .i64 1) fun x20 =>
  o.idx 1 y5 x20 fun x21 =>
  o.load 1 false x21 H11 fun x22 =>
  o.conv .u64 x22 fun x23 =>
  o.shl x23 (.int .u64 32) fun x24 =>
  o.or x16 x24 fun x25 =>
  (f116_j3 o K C k12 y5 y6 y7 y8 y10 x25 y9 y10 H11))
  ((f116_j3 o K C k12 y5 y6 y7 y8 y10 x16 y9 y10 H11))))
  (o.call (C 73 [y8] H11) fun x32 H33 =>
  o.bstore 0 1 y7 x32 fun c34 =>
  o.resc 1 true (.box c34) fun r35 =>
  some (r35, H33)))
def f116 (o : Ops) (K : Nat) (C : CallC) (a0 a1 : SV) (H : Heap) : Rs :=
  o.len a0 fun x1 =>
  o.make 1 4 [.int .u32 0] x1 x1 H fun x2 H3 =>
  o.len a0 fun x4 =>
  (o.loop6 (f116_l1 o K C) K a0 a1 (.box [.slice nilSl]) x2 x4 (.int .i64 0) H3)
end Go.Sh.Of

