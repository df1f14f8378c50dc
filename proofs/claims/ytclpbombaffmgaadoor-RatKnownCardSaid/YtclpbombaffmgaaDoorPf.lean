/- Plain forms, printed by a program. -/
import Derived.Test.YtclpbombaffmgaaDoorSh26
set_option linter.unusedVariables false
set_option maxRecDepth 100000
namespace Go.Sh.Of
open Go
/-- parquet/parquetlaw03.RatKnown -/
def f3_j3 (o : Ops) (K : Nat) (C : CallC) (k6 : SV → SV → SV → Heap → Rs) (q3_1 q3_13 q3_14 : SV) (H3_0 : Heap) : Rs :=
  o.add q3_14 (.int .i64 1) fun x16 =>
  k6 q3_1 q3_13 x16 H3_0
def f3_j6 (o : Ops) (K : Nat) (C : CallC) (q6_0 : SV) (H6_0 : Heap) : Rs :=
  o.rest q6_0 fun r72 =>
  some (r72, H6_0)
def f3_l1 (o : Ops) (K : Nat) (C : CallC) : SV → SV → SV → Heap → (SV → SV → SV → Heap → Rs) → Rs := fun y2 y3 y4 H5 k6 =>
  o.lss y4 (.int .i64 12) fun x7 =>
  (o.cond x7
  (o.indexv 12 1 false y3 y4 fun x8 =>
  o.call (C 4 [x8] H5) fun x9 H10 =>
  o.ext 0 x9 fun x11 =>
  o.ext 1 x9 fun x12 =>
  o.bstore 0 3 (.box [.bool false, .slice nilSl, .slice nilSl]) x11 fun c13 =>
  o.eql x12 (.int .i64 12) fun x14 =>
  (o.cond x14
  (o.add y2 (.int .i64 1) fun x15 =>
  (f3_j3 o K C k6 x15 y3 y4 H10))
  ((f3_j3 o K C k6 y2 y3 y4 H10))))
  (o.call (C 4 [(.str [45, 49, 47, 51])] H5) fun x17 H18 =>
  o.ext 0 x17 fun x19 =>
  o.ext 1 x17 fun x20 =>
  o.bstore 0 3 (.box [.bool false, .slice nilSl, .slice nilSl]) x19 fun c21 =>
  o.call (C 6 [(.int .i64 1)] H18) fun x22 H23 =>
  o.call (C 6 [(.int .i64 0)] H23) fun x24 H25 =>
  o.call (C 5 [x22, x24] H25) fun x26 H27 =>
  o.ext 0 x26 fun x28 =>
  o.ext 1 x26 fun x29 =>
  o.bstore 0 3 (.box [.bool false, .slice nilSl, .slice nilSl]) x28 fun c30 =>
  o.call (C 4 [(.str [55, 47, 53])] H27) fun x31 H32 =>
  o.ext 0 x31 fun x33 =>
  o.ext 1 x31 fun x34 =>
  o.bstore 0 3 (.box [.bool false, .slice nilSl, .slice nilSl]) x33 fun c35 =>
  o.eql y2 (.int .i64 12) fun x36 =>
  (o.guard x36
  (o.eql x20 (.int .i64 0) fun x37 =>
  (o.guard x37
  (o.lload 0 3 true (.box c21) fun x38 =>
  o.call (C 7 [x38] H32) fun x39 H40 =>
  o.eql x39 (.str [45, 49, 47, 51]) fun x41 =>
  (o.guard x41
  (o.eql x29 (.int .i64 11) fun x42 =>
  (o.guard x42
  (o.eql x34 (.int .i64 0) fun x43 =>
  (o.guard x43
  (o.lload 0 3 true (.box c35) fun x44 =>
  o.call (C 8 [x44] H40) fun x45 H46 =>
  o.call (C 9 [x45] H46) fun x47 H48 =>
  o.eql x47 (.str [49]) fun x49 =>
  (o.guard x49
  (o.lload 0 3 true (.box c35) fun x50 =>
  o.call (C 10 [x50] H48) fun x51 H52 =>
  o.call (C 9 [x51] H52) fun x53 H54 =>
  o.eql x53 (.str [49]) fun x55 =>
  (o.guard x55
  (o.lload 0 3 true (.box [.bool false, .slice nilSl, .slice nilSl]) fun x56 =>
  o.call (C 7 [x56] H54) fun x57 H58 =>
  o.eql x57 (.str [48]) fun x59 =>
  (o.guard x59
  (o.lload 0 3 true (.box [.bool false, .slice nilSl, .slice nilSl]) fun x60 =>
  o.call (C 11 [x60] H58) fun x61 H62 =>
  o.call (C 12 [x61] H62) fun x63 H64 =>
  o.eql x63 (.str [49]) fun x65 =>
  (o.guard x65
  (o.lload 0 3 true (.box [.bool false, .slice nilSl, .slice nilSl]) fun x66 =>
  o.call (C 13 [x66] H64) fun x67 H68 =>
  o.eql x67 (.int .i64 0) fun x69 =>
  (o.guard x69
  (o.call (C 14 [] H68) fun x70 H71 =>
  (f3_j6 o K C x70 H71))
  ((f3_j6 o K C (.bool false) H68))
  (none)))
  ((f3_j6 o K C (.bool false) H64))
  (none)))
  ((f3_j6 o K C (.bool false) H58))
  (none)))
  ((f3_j6 o K C (.bool false) H54))
  (none)))
  ((f3_j6 o K C (.bool false) H48))
  (none)))
  ((f3_j6 o K C (.bool false) H40))
  (none)))
  ((f3_j6 o K C (.bool false) H40))
  (none)))
  ((f3_j6 o K C (.bool false) H40))
  (none)))
  ((f3_j6 o K C (.bool false) H32))
  (none)))
  ((f3_j6 o K C (.bool false) H32))
  (none))))
def f3 (o : Ops) (K : Nat) (C : CallC) (H : Heap) : Rs :=
  o.build [.str [], .str [], .str [], .str [], .str [], .str [], .str [], .str [], .str [], .str [], .str [], .str []] [(0, 1), (1, 1), (2, 1), (3, 1), (4, 1), (5, 1), (6, 1), (7, 1), (8, 1), (9, 1), (10, 1), (11, 1)] [(.str [52, 47, 50]), (.str [49, 47, 48]), (.str [49, 47, 49]), (.str [45, 48]), (.str []), (.str [47]), (.str [49, 47]), (.str [47, 50]), (.str [48, 47, 51]), (.str [49, 47, 45, 50]), (.str [45, 45, 49]), (.str [49, 47, 50, 47, 51])] fun x1 =>
  (o.loop3 (f3_l1 o K C) K (.int .i64 0) x1 (.int .i64 0) H)
/-- parquet/rat.Parse -/
def f4_j5 (o : Ops) (K : Nat) (C : CallC) (q5_2 q5_7 q5_8 q5_10 q5_79 : SV) (H5_0 : Heap) : Rs :=
  (o.cond q5_79
  (o.build [.bool false, .slice nilSl, .slice nilSl] [] [] fun x39 =>
  o.bstore 0 3 q5_2 x39 fun c40 =>
  o.resc 3 true (.box c40) fun r41 =>
  some (.tuple [r41, (.int .i64 12)], H5_0))
  (o.lload 0 1 true q5_8 fun x43 =>
  o.call (C 24 [q5_7, x43] H5_0) fun x44 H45 =>
  o.lload 0 1 true q5_10 fun x46 =>
  o.call (C 23 [x44, x46] H45) fun x47 H48 =>
  o.bstore 0 3 q5_2 x47 fun c49 =>
  o.resc 3 true (.box c49) fun r50 =>
  some (.tuple [r50, (.int .i64 0)], H48)))
def f4_j8 (o : Ops) (K : Nat) (C : CallC) (q8_2 q8_92 : SV) (H8_0 : Heap) : Rs :=
  (o.cond q8_92
  (o.build [.bool false, .slice nilSl, .slice nilSl] [] [] fun x55 =>
  o.bstore 0 3 q8_2 x55 fun c56 =>
  o.resc 3 true (.box c56) fun r57 =>
  some (.tuple [r57, (.int .i64 12)], H8_0))
  (o.build [.bool false, .slice nilSl, .slice nilSl] [] [] fun x59 =>
  o.bstore 0 3 q8_2 x59 fun c60 =>
  o.resc 3 true (.box c60) fun r61 =>
  some (.tuple [r61, (.int .i64 3)], H8_0)))
def f4_j4 (o : Ops) (K : Nat) (C : CallC) (q4_2 q4_4 q4_5 q4_6 q4_7 q4_8 q4_10 q4_70 : SV) (H4_0 : Heap) : Rs :=
  (o.cond q4_70
  (o.lload 0 1 true q4_8 fun x30 =>
  o.lload 0 1 true q4_10 fun x31 =>
  o.call (C 21 [x30, x31] H4_0) fun x32 H33 =>
  o.call (C 22 [] H33) fun x34 H35 =>
  o.call (C 20 [x32, x34] H35) fun x36 H37 =>
  o.neq x36 (.int .i64 0) fun x38 =>
  (o.guard x38
  ((f4_j5 o K C q4_2 q4_7 q4_8 q4_10 q4_6 H37))
  ((f4_j5 o K C q4_2 q4_7 q4_8 q4_10 (.bool false) H37))
  (none)))
  ((o.guard q4_6
  (o.call (C 25 [q4_4, q4_5] H4_0) fun x52 H53 =>
  o.u_not x52 fun x54 =>
  (f4_j8 o K C q4_2 x54 H53))
  ((f4_j8 o K C q4_2 (.bool false) H4_0))
  (none))))
def f4_j2 (o : Ops) (K : Nat) (C : CallC) (q2_2 q2_4 q2_5 q2_6 q2_7 q2_53 : SV) (H2_0 : Heap) : Rs :=
  (o.cond q2_53
  (o.build [.bool false, .slice nilSl, .slice nilSl] [] [] fun x14 =>
  o.bstore 0 3 q2_2 x14 fun c15 =>
  o.resc 3 true (.box c15) fun r16 =>
  some (.tuple [r16, (.int .i64 12)], H2_0))
  (o.call (C 19 [q2_4] H2_0) fun x18 H19 =>
  o.ext 0 x18 fun x20 =>
  o.ext 1 x18 fun x21 =>
  o.bstore 0 1 (.box [.slice nilSl]) x20 fun c22 =>
  o.call (C 19 [q2_5] H19) fun x23 H24 =>
  o.ext 0 x23 fun x25 =>
  o.ext 1 x23 fun x26 =>
  o.bstore 0 1 (.box [.slice nilSl]) x25 fun c27 =>
  o.eql x21 (.int .i64 0) fun x28 =>
  (o.guard x28
  (o.eql x26 (.int .i64 0) fun x29 =>
  (f4_j4 o K C q2_2 q2_4 q2_5 q2_6 q2_7 (.box c22) (.box c27) x29 H24))
  ((f4_j4 o K C q2_2 q2_4 q2_5 q2_6 q2_7 (.box c22) (.box c27) (.bool false) H24))
  (none))))
def f4_j1 (o : Ops) (K : Nat) (C : CallC) (q1_2 q1_4 q1_5 q1_6 q1_7 : SV) (H1_0 : Heap) : Rs :=
  o.call (C 18 [q1_4] H1_0) fun x11 H12 =>
  o.u_not x11 fun x13 =>
  (o.guard x13
  ((f4_j2 o K C q1_2 q1_4 q1_5 q1_6 q1_7 (.bool true) H12))
  (o.call (C 18 [q1_5] H12) fun x63 H64 =>
  o.u_not x63 fun x65 =>
  (o.guard x65
  ((f4_j2 o K C q1_2 q1_4 q1_5 q1_6 q1_7 (.bool true) H64))
  (o.eql q1_5 (.str [48]) fun x66 =>
  (o.guard x66
  ((f4_j2 o K C q1_2 q1_4 q1_5 q1_6 q1_7 (.bool true) H64))
  ((o.guard q1_6
  (o.eql q1_5 (.str [49]) fun x67 =>
  (o.guard x67
  ((f4_j2 o K C q1_2 q1_4 q1_5 q1_6 q1_7 (.bool true) H64))
  (o.eql q1_4 (.str [48]) fun x68 =>
  (o.guard x68
  ((f4_j2 o K C q1_2 q1_4 q1_5 q1_6 q1_7 (.bool true) H64))
  ((o.guard q1_7
  (o.eql q1_4 (.str [48]) fun x69 =>
  (f4_j2 o K C q1_2 q1_4 q1_5 q1_6 q1_7 x69 H64))
  ((f4_j2 o K C q1_2 q1_4 q1_5 q1_6 q1_7 (.bool false) H64))
  (none)))
  (none)))
  (none)))
  ((o.guard q1_7
  (o.eql q1_4 (.str [48]) fun x70 =>
  (f4_j2 o K C q1_2 q1_4 q1_5 q1_6 q1_7 x70 H64))
  ((f4_j2 o K C q1_2 q1_4 q1_5 q1_6 q1_7 (.bool false) H64))
  (none)))
  (none)))
  (none)))
  (none)))
  (none))
def f4 (o : Ops) (K : Nat) (C : CallC) (a0 : SV) (H : Heap) : Rs :=
  o.call (C 15 [a0, (.str [47])] H) fun x1 H2 =>
  o.ext 0 x1 fun x3 =>
  o.ext 1 x1 fun x4 =>
  o.ext 2 x1 fun x5 =>
  o.call (C 16 [x3, (.str [45])] H2) fun x6 H7 =>
  o.call (C 17 [x3, (.str [45])] H7) fun x8 H9 =>
  o.u_not x5 fun x10 =>
  (o.cond x10
  ((f4_j1 o K C (.box [.bool false, .slice nilSl, .slice nilSl]) x8 (.str [49]) x5 x6 H9))
  ((f4_j1 o K C (.box [.bool false, .slice nilSl, .slice nilSl]) x8 x4 x5 x6 H9)))
/-- parquet/rat.Make -/
def f5_j2 (o : Ops) (K : Nat) (C : CallC) (q2_2 q2_3 q2_4 : SV) (H2_0 : Heap) : Rs :=
  o.lload 0 2 true q2_2 fun x19 =>
  o.lload 0 2 true q2_3 fun x20 =>
  o.call (C 28 [x20] H2_0) fun x21 H22 =>
  o.call (C 23 [x19, x21] H22) fun x23 H24 =>
  o.bstore 0 3 q2_4 x23 fun c25 =>
  o.resc 3 true (.box c25) fun r26 =>
  some (.tuple [r26, (.int .i64 0)], H24)
def f5 (o : Ops) (K : Nat) (C : CallC) (a0 a1 : SV) (H : Heap) : Rs :=
  o.bbox a0 fun c1 =>
  o.bbox a1 fun c2 =>
  o.lload 0 2 true (.box c2) fun x3 =>
  o.call (C 26 [x3] H) fun x4 H5 =>
  o.eql x4 (.int .i64 0) fun x6 =>
  (o.cond x6
  (o.build [.bool false, .slice nilSl, .slice nilSl] [] [] fun x7 =>
  o.bstore 0 3 (.box [.bool false, .slice nilSl, .slice nilSl]) x7 fun c8 =>
  o.resc 3 true (.box c8) fun r9 =>
  some (.tuple [r9, (.int .i64 11)], H5))
  (o.lload 0 2 true (.box c2) fun x11 =>
  o.call (C 26 [x11] H5) fun x12 H13 =>
  o.lss x12 (.int .i64 0) fun x14 =>
  (o.cond x14
  (o.lload 0 2 true (.box c1) fun x15 =>
  o.call (C 27 [x15] H13) fun x16 H17 =>
  o.bstore 0 2 (.box c1) x16 fun c18 =>
  (f5_j2 o K C (.box c18) (.box c2) (.box [.bool false, .slice nilSl, .slice nilSl]) H17))
  ((f5_j2 o K C (.box c1) (.box c2) (.box [.bool false, .slice nilSl, .slice nilSl]) H13)))))
/-- parquet/zint.Of -/
def f6 (o : Ops) (K : Nat) (C : CallC) (a0 : SV) (H : Heap) : Rs :=
  o.lss a0 (.int .i64 0) fun x1 =>
  (o.cond x1
  (o.conv .u64 a0 fun x2 =>
  o.u_neg x2 fun x3 =>
  o.call (C 29 [x3] H) fun x4 H5 =>
  o.build [.bool false, .slice nilSl] [(0, 1), (1, 1)] [(.bool true), x4] fun x6 =>
  o.bstore 0 2 (.box [.bool false, .slice nilSl]) x6 fun c7 =>
  o.resc 2 true (.box c7) fun r8 =>
  some (r8, H5))
  (o.conv .u64 a0 fun x9 =>
  o.call (C 29 [x9] H) fun x10 H11 =>
  o.build [.bool false, .slice nilSl] [(1, 1)] [x10] fun x12 =>
  o.bstore 0 2 (.box [.bool false, .slice nilSl]) x12 fun c13 =>
  o.resc 2 true (.box c13) fun r14 =>
  some (r14, H11)))
/-- (parquet/rat.Rat).Text -/
def f7 (o : Ops) (K : Nat) (C : CallC) (a0 : SV) (H : Heap) : Rs :=
  o.bbox a0 fun c1 =>
  o.lfld 2 (.box c1) fun x2 =>
  o.lloadp 1 true (.box c1) x2 fun x3 =>
  o.call (C 30 [x3] H) fun x4 H5 =>
  o.eql x4 (.int .i64 0) fun x6 =>
  (o.cond x6
  (o.lfld 0 (.box c1) fun x7 =>
  o.lloadp 2 true (.box c1) x7 fun x8 =>
  o.call (C 9 [x8] H5) fun x9 H10 =>
  o.rest x9 fun r11 =>
  some (r11, H10))
  (o.lfld 0 (.box c1) fun x12 =>
  o.lloadp 2 true (.box c1) x12 fun x13 =>
  o.call (C 9 [x13] H5) fun x14 H15 =>
  o.add x14 (.str [47]) fun x16 =>
  o.lload 0 3 true (.box c1) fun x17 =>
  o.call (C 11 [x17] H15) fun x18 H19 =>
  o.call (C 12 [x18] H19) fun x20 H21 =>
  o.add x16 x20 fun x22 =>
  o.rest x22 fun r23 =>
  some (r23, H21)))
/-- (parquet/rat.Rat).Round -/
def f8 (o : Ops) (K : Nat) (C : CallC) (a0 : SV) (H : Heap) : Rs :=
  o.bbox a0 fun c1 =>
  o.lload 0 3 true (.box c1) fun x2 =>
  o.call (C 31 [x2] H) fun x3 H4 =>
  o.lload 0 3 true (.box c1) fun x5 =>
  o.call (C 10 [x5] H4) fun x6 H7 =>
  o.bstore 0 1 (.box [.slice nilSl]) x3 fun c8 =>
  o.bstore 0 2 (.box [.bool false, .slice nilSl]) x6 fun c9 =>
  o.lload 0 3 true (.box c1) fun x10 =>
  o.call (C 11 [x10] H7) fun x11 H12 =>
  o.lload 0 1 true (.box c8) fun x13 =>
  o.call (C 32 [x11, x13] H12) fun x14 H15 =>
  o.ext 0 x14 fun x16 =>
  o.ext 1 x14 fun x17 =>
  o.bstore 0 1 (.box [.slice nilSl]) x16 fun c18 =>
  o.lload 0 1 true (.box c8) fun x19 =>
  o.lload 0 1 true (.box c18) fun x20 =>
  o.call (C 20 [x19, x20] H15) fun x21 H22 =>
  o.lss x21 (.int .i64 0) fun x23 =>
  (o.cond x23
  (o.lload 0 2 true (.box c9) fun x24 =>
  o.bstore 0 2 (.box [.bool false, .slice nilSl]) x24 fun c25 =>
  o.resc 2 true (.box c25) fun r26 =>
  some (r26, H22))
  (o.lload 0 2 true (.box c9) fun x27 =>
  o.call (C 6 [(.int .i64 1)] H22) fun x28 H29 =>
  o.call (C 33 [x27, x28] H29) fun x30 H31 =>
  o.ext 0 x30 fun x32 =>
  o.ext 1 x30 fun x33 =>
  o.bstore 0 2 (.box [.bool false, .slice nilSl]) x32 fun c34 =>
  o.lload 0 2 true (.box c34) fun x35 =>
  o.bstore 0 2 (.box [.bool false, .slice nilSl]) x35 fun c36 =>
  o.resc 2 true (.box c36) fun r37 =>
  some (r37, H31)))
/-- (parquet/zint.Int).Text -/
def f9 (o : Ops) (K : Nat) (C : CallC) (a0 : SV) (H : Heap) : Rs :=
  o.bbox a0 fun c1 =>
  o.lfld 0 (.box c1) fun x2 =>
  o.lloadp 1 false (.box c1) x2 fun x3 =>
  (o.cond x3
  (o.lfld 1 (.box c1) fun x4 =>
  o.lloadp 1 true (.box c1) x4 fun x5 =>
  o.call (C 12 [x5] H) fun x6 H7 =>
  o.add (.str [45]) x6 fun x8 =>
  o.rest x8 fun r9 =>
  some (r9, H7))
  (o.lfld 1 (.box c1) fun x10 =>
  o.lloadp 1 true (.box c1) x10 fun x11 =>
  o.call (C 12 [x11] H) fun x12 H13 =>
  o.rest x12 fun r14 =>
  some (r14, H13)))
/-- (parquet/rat.Rat).Floor -/
def f10_j2 (o : Ops) (K : Nat) (C : CallC) (q2_2 q2_3 : SV) (H2_0 : Heap) : Rs :=
  o.lload 0 1 true q2_3 fun x41 =>
  o.call (C 24 [(.bool true), x41] H2_0) fun x42 H43 =>
  o.bstore 0 2 q2_2 x42 fun c44 =>
  o.resc 2 true (.box c44) fun r45 =>
  some (r45, H43)
def f10 (o : Ops) (K : Nat) (C : CallC) (a0 : SV) (H : Heap) : Rs :=
  o.bbox a0 fun c1 =>
  o.lfld 0 (.box c1) fun x2 =>
  o.lloadp 2 true (.box c1) x2 fun x3 =>
  o.call (C 28 [x3] H) fun x4 H5 =>
  o.lload 0 3 true (.box c1) fun x6 =>
  o.call (C 11 [x6] H5) fun x7 H8 =>
  o.call (C 34 [x4, x7] H8) fun x9 H10 =>
  o.ext 0 x9 fun x11 =>
  o.ext 1 x9 fun x12 =>
  o.ext 2 x9 fun x13 =>
  o.bstore 0 1 (.box [.slice nilSl]) x11 fun c14 =>
  o.bstore 0 1 (.box [.slice nilSl]) x12 fun c15 =>
  o.lfld 0 (.box c1) fun x16 =>
  o.lloadp 2 true (.box c1) x16 fun x17 =>
  o.call (C 26 [x17] H10) fun x18 H19 =>
  o.geq x18 (.int .i64 0) fun x20 =>
  (o.cond x20
  (o.lload 0 1 true (.box c14) fun x21 =>
  o.call (C 24 [(.bool false), x21] H19) fun x22 H23 =>
  o.bstore 0 2 (.box [.bool false, .slice nilSl]) x22 fun c24 =>
  o.resc 2 true (.box c24) fun r25 =>
  some (r25, H23))
  (o.lload 0 3 true (.box c1) fun x26 =>
  o.mkfn 31 1 [x26] fun x27 =>
  o.callv C [x27] H19 fun x28 H29 =>
  o.call (C 30 [x28] H29) fun x30 H31 =>
  o.gtr x30 (.int .i64 0) fun x32 =>
  (o.cond x32
  (o.lload 0 1 true (.box c14) fun x33 =>
  o.call (C 22 [] H31) fun x34 H35 =>
  o.call (C 35 [x33, x34] H35) fun x36 H37 =>
  o.ext 0 x36 fun x38 =>
  o.ext 1 x36 fun x39 =>
  o.bstore 0 1 (.box c14) x38 fun c40 =>
  (f10_j2 o K C (.box [.bool false, .slice nilSl]) (.box c40) H37))
  ((f10_j2 o K C (.box [.bool false, .slice nilSl]) (.box c14) H31)))))
/-- (parquet/rat.Rat).Den -/
def f11 (o : Ops) (K : Nat) (C : CallC) (a0 : SV) (H : Heap) : Rs :=
  o.bbox a0 fun c1 =>
  o.lfld 2 (.box c1) fun x2 =>
  o.lloadp 1 true (.box c1) x2 fun x3 =>
  o.call (C 22 [] H) fun x4 H5 =>
  o.call (C 35 [x3, x4] H5) fun x6 H7 =>
  o.ext 0 x6 fun x8 =>
  o.ext 1 x6 fun x9 =>
  o.bstore 0 1 (.box [.slice nilSl]) x8 fun c10 =>
  o.neq x9 (.int .i64 0) fun x11 =>
  (o.cond x11
  (o.lfld 2 (.box c1) fun x12 =>
  o.lloadp 1 true (.box c1) x12 fun x13 =>
  o.bstore 0 1 (.box [.slice nilSl]) x13 fun c14 =>
  o.resc 1 true (.box c14) fun r15 =>
  some (r15, H7))
  (o.lload 0 1 true (.box c10) fun x16 =>
  o.bstore 0 1 (.box [.slice nilSl]) x16 fun c17 =>
  o.resc 1 true (.box c17) fun r18 =>
  some (r18, H7)))
/-- (parquet/nat.Nat).Text -/
def f12_j5 (o : Ops) (K : Nat) (C : CallC) (k14 : SV → SV → Heap → Rs) (k27 : SV → SV → SV → SV → Heap → Rs) (q5_3 q5_4 q5_5 q5_6 q5_34 : SV) (H5_0 : Heap) : Rs :=
  (o.cond q5_34
  (o.rem q5_5 (.int .u32 10) fun x31 =>
  o.add (.int .u32 48) x31 fun x32 =>
  o.conv .u8 x32 fun x33 =>
  o.hbuild 1 [.int .u8 0] [(0, 1)] [x33] H5_0 fun x34 H35 =>
  o.append 1 1 q5_4 x34 H35 fun x36 H37 =>
  o.quo q5_5 (.int .u32 10) fun x38 =>
  o.add q5_6 (.int .i64 1) fun x39 =>
  k27 q5_3 x36 x38 x39 H37)
  (k14 q5_3 q5_4 H5_0))
def f12_l4 (o : Ops) (K : Nat) (C : CallC) (k14 : SV → SV → Heap → Rs) : SV → SV → SV → SV → Heap → (SV → SV → SV → SV → Heap → Rs) → Rs := fun y22 y23 y24 y25 H26 k27 =>
  o.lss y25 (.int .i64 9) fun x28 =>
  (o.guard x28
  (o.len y22 fun x29 =>
  o.gtr x29 (.int .i64 0) fun x30 =>
  (o.guard x30
  ((f12_j5 o K C k14 k27 y22 y23 y24 y25 (.bool true) H26))
  (o.gtr y24 (.int .u32 0) fun x40 =>
  (f12_j5 o K C k14 k27 y22 y23 y24 y25 x40 H26))
  (none)))
  ((f12_j5 o K C k14 k27 y22 y23 y24 y25 (.bool false) H26))
  (none))
def f12_l11 (o : Ops) (K : Nat) (C : CallC) : SV → SV → SV → Heap → (SV → SV → SV → Heap → Rs) → Rs := fun y43 y44 y45 H46 k47 =>
  o.lss y44 y45 fun x48 =>
  (o.cond x48
  (o.idx 1 y43 y45 fun x49 =>
  o.load 1 false x49 H46 fun x50 =>
  o.idx 1 y43 y44 fun x51 =>
  o.load 1 false x51 H46 fun x52 =>
  o.idx 1 y43 y44 fun x53 =>
  o.store 1 x53 x50 H46 fun H55 =>
  o.idx 1 y43 y45 fun x56 =>
  o.store 1 x56 x52 H55 fun H58 =>
  o.add y44 (.int .i64 1) fun x59 =>
  o.sub y45 (.int .i64 1) fun x60 =>
  k47 y43 x59 x60 H58)
  (o.str y43 H46 fun x61 =>
  o.rest x61 fun r62 =>
  some (r62, H46)))
def f12_l2 (o : Ops) (K : Nat) (C : CallC) : SV → SV → Heap → (SV → SV → Heap → Rs) → Rs := fun y11 y12 H13 k14 =>
  o.len y11 fun x15 =>
  o.gtr x15 (.int .i64 0) fun x16 =>
  (o.cond x16
  (o.call (C 36 [y11, (.int .u32 1000000000)] H13) fun x17 H18 =>
  o.call (C 37 [y11] H18) fun x19 H20 =>
  o.fieldv 0 1 false x19 fun x21 =>
  (o.loop4 (f12_l4 o K C k14) K x21 y12 x17 (.int .i64 0) H20))
  (o.len y12 fun x41 =>
  o.sub x41 (.int .i64 1) fun x42 =>
  (o.loop3 (f12_l11 o K C) K y12 (.int .i64 0) x42 H13)))
def f12 (o : Ops) (K : Nat) (C : CallC) (a0 : SV) (H : Heap) : Rs :=
  o.bbox a0 fun c1 =>
  o.lfld 0 (.box c1) fun x2 =>
  o.lloadp 1 false (.box c1) x2 fun x3 =>
  o.len x3 fun x4 =>
  o.eql x4 (.int .i64 0) fun x5 =>
  (o.cond x5
  (some ((.str [48]), H))
  (o.lfld 0 (.box c1) fun x7 =>
  o.lloadp 1 false (.box c1) x7 fun x8 =>
  o.append 1 4 (.slice nilSl) x8 H fun x9 H10 =>
  (o.loop2 (f12_l2 o K C) K x9 (.slice nilSl) H10)))
/-- (parquet/rat.Rat).Sign -/
def f13 (o : Ops) (K : Nat) (C : CallC) (a0 : SV) (H : Heap) : Rs :=
  o.bbox a0 fun c1 =>
  o.lfld 0 (.box c1) fun x2 =>
  o.lloadp 2 true (.box c1) x2 fun x3 =>
  o.call (C 26 [x3] H) fun x4 H5 =>
  o.rest x4 fun r6 =>
  some (r6, H5)
/-- parquet/parquetlaw03.works -/
def f14_j1 (o : Ops) (K : Nat) (C : CallC) (q1_0 : SV) (H1_0 : Heap) : Rs :=
  o.rest q1_0 fun r58 =>
  some (r58, H1_0)
def f14 (o : Ops) (K : Nat) (C : CallC) (H : Heap) : Rs :=
  o.call (C 6 [(.int .i64 6)] H) fun x1 H2 =>
  o.call (C 6 [(.int .i64 (-4))] H2) fun x3 H4 =>
  o.call (C 5 [x1, x3] H4) fun x5 H6 =>
  o.ext 0 x5 fun x7 =>
  o.ext 1 x5 fun x8 =>
  o.bstore 0 3 (.box [.bool false, .slice nilSl, .slice nilSl]) x7 fun c9 =>
  o.call (C 4 [(.str [49, 47, 50])] H6) fun x10 H11 =>
  o.ext 0 x10 fun x12 =>
  o.ext 1 x10 fun x13 =>
  o.bstore 0 3 (.box [.bool false, .slice nilSl, .slice nilSl]) x12 fun c14 =>
  o.lload 0 3 true (.box c9) fun x15 =>
  o.lload 0 3 true (.box c14) fun x16 =>
  o.call (C 38 [x15, x16] H11) fun x17 H18 =>
  o.ext 0 x17 fun x19 =>
  o.ext 1 x17 fun x20 =>
  o.bstore 0 3 (.box [.bool false, .slice nilSl, .slice nilSl]) x19 fun c21 =>
  o.lload 0 3 true (.box c9) fun x22 =>
  o.build [.bool false, .slice nilSl, .slice nilSl] [] [] fun x23 =>
  o.call (C 39 [x22, x23] H18) fun x24 H25 =>
  o.ext 0 x24 fun x26 =>
  o.ext 1 x24 fun x27 =>
  o.bstore 0 3 (.box [.bool false, .slice nilSl, .slice nilSl]) x26 fun c28 =>
  o.eql x8 (.int .i64 0) fun x29 =>
  (o.guard x29
  (o.eql x13 (.int .i64 0) fun x30 =>
  (o.guard x30
  (o.eql x20 (.int .i64 0) fun x31 =>
  (o.guard x31
  (o.eql x27 (.int .i64 11) fun x32 =>
  (o.guard x32
  (o.lload 0 3 true (.box c9) fun x33 =>
  o.call (C 7 [x33] H25) fun x34 H35 =>
  o.eql x34 (.str [45, 51, 47, 50]) fun x36 =>
  (o.guard x36
  (o.lload 0 3 true (.box c21) fun x37 =>
  o.call (C 7 [x37] H35) fun x38 H39 =>
  o.eql x38 (.str [45, 49]) fun x40 =>
  (o.guard x40
  (o.lload 0 3 true (.box c9) fun x41 =>
  o.call (C 10 [x41] H39) fun x42 H43 =>
  o.call (C 9 [x42] H43) fun x44 H45 =>
  o.eql x44 (.str [45, 50]) fun x46 =>
  (o.guard x46
  (o.lload 0 3 true (.box c14) fun x47 =>
  o.call (C 8 [x47] H45) fun x48 H49 =>
  o.call (C 9 [x48] H49) fun x50 H51 =>
  o.eql x50 (.str [49]) fun x52 =>
  (o.guard x52
  (o.lload 0 3 true (.box c9) fun x53 =>
  o.lload 0 3 true (.box c14) fun x54 =>
  o.call (C 40 [x53, x54] H51) fun x55 H56 =>
  o.lss x55 (.int .i64 0) fun x57 =>
  (f14_j1 o K C x57 H56))
  ((f14_j1 o K C (.bool false) H51))
  (none)))
  ((f14_j1 o K C (.bool false) H45))
  (none)))
  ((f14_j1 o K C (.bool false) H39))
  (none)))
  ((f14_j1 o K C (.bool false) H35))
  (none)))
  ((f14_j1 o K C (.bool false) H25))
  (none)))
  ((f14_j1 o K C (.bool false) H25))
  (none)))
  ((f14_j1 o K C (.bool false) H25))
  (none)))
  ((f14_j1 o K C (.bool false) H25))
  (none))
/-- strings.Cut -/
def f15 (o : Ops) (K : Nat) (C : CallC) (a0 a1 : SV) (H : Heap) : Rs :=
  o.call (C 41 [a0, a1] H) fun x1 H2 =>
  o.ext 0 x1 fun x3 =>
  o.ext 1 x1 fun x4 =>
  o.ext 2 x1 fun x5 =>
  o.rest x3 fun r6 =>
  o.rest x4 fun r7 =>
  o.rest x5 fun r8 =>
  some (.tuple [r6, r7, r8], H2)
/-- strings.HasPrefix -/
def f16 (o : Ops) (K : Nat) (C : CallC) (a0 a1 : SV) (H : Heap) : Rs :=
  o.call (C 42 [a0, a1] H) fun x1 H2 =>
  o.rest x1 fun r3 =>
  some (r3, H2)
/-- strings.TrimPrefix -/
def f17 (o : Ops) (K : Nat) (C : CallC) (a0 a1 : SV) (H : Heap) : Rs :=
  o.call (C 43 [a0, a1] H) fun x1 H2 =>
  o.rest x1 fun r3 =>
  some (r3, H2)
/-- parquet/rat.digits -/
def f18_j1 (o : Ops) (K : Nat) (C : CallC) (q1_2 : SV) (H1_0 : Heap) : Rs :=
  o.rest q1_2 fun r7 =>
  some (r7, H1_0)
def f18 (o : Ops) (K : Nat) (C : CallC) (a0 : SV) (H : Heap) : Rs :=
  o.neq a0 (.str []) fun x1 =>
  (o.guard x1
  (o.call (C 44 [a0, (.str [48, 49, 50, 51, 52, 53, 54, 55, 56, 57])] H) fun x2 H3 =>
  o.eql x2 (.str []) fun x4 =>
  (o.guard x4
  (o.slen a0 fun x5 =>
  o.eql x5 (.int .i64 1) fun x6 =>
  (o.guard x6
  ((f18_j1 o K C (.bool true) H3))
  (o.stridx a0 (.int .i64 0) fun x8 =>
  o.neq x8 (.int .u8 48) fun x9 =>
  (f18_j1 o K C x9 H3))
  (none)))
  ((f18_j1 o K C (.bool false) H3))
  (none)))
  ((f18_j1 o K C (.bool false) H))
  (none))
/-- parquet/nat.Parse -/
def f19_j5 (o : Ops) (K : Nat) (C : CallC) (k12 : SV → SV → SV → SV → Heap → Rs) (q5_0 q5_2 q5_26 q5_27 q5_39 : SV) (H5_0 : Heap) : Rs :=
  (o.cond q5_39
  (o.build [.slice nilSl] [] [] fun x16 =>
  o.bstore 0 1 q5_2 x16 fun c17 =>
  o.resc 1 true (.box c17) fun r18 =>
  some (.tuple [r18, (.int .i64 12)], H5_0))
  (o.add q5_27 (.int .i64 1) fun x20 =>
  k12 q5_0 q5_2 q5_26 x20 H5_0))
def f19_j20 (o : Ops) (K : Nat) (C : CallC) (k33 : SV → SV → SV → Heap → Rs) (q20_0 q20_2 q20_5 q20_6 : SV) (H20_0 : Heap) : Rs :=
  o.strcut10 q20_0 q20_6 fun x87 =>
  k33 x87 q20_2 q20_5 H20_0
def f19_l16 (o : Ops) (K : Nat) (C : CallC) (k33 : SV → SV → SV → Heap → Rs) : SV → SV → SV → SV → SV → SV → SV → SV → Heap → (SV → SV → SV → SV → SV → SV → SV → SV → Heap → Rs) → Rs := fun y59 y60 y61 y62 y63 y64 y65 y66 H67 k68 =>
  o.lss y66 y65 fun x69 =>
  (o.cond x69
  (o.idx 1 y61 y66 fun x70 =>
  o.load 1 false x70 H67 fun x71 =>
  o.conv .u64 x71 fun x72 =>
  o.mul x72 y64 fun x73 =>
  o.add x73 y63 fun x74 =>
  o.conv .u32 x74 fun x75 =>
  o.shr x74 (.int .u64 32) fun x76 =>
  o.idx 1 y61 y66 fun x77 =>
  o.store 1 x77 x75 H67 fun H79 =>
  o.add y66 (.int .i64 1) fun x80 =>
  k68 y59 y60 y61 y62 x76 y64 y65 x80 H79)
  (o.gtr y63 (.int .u64 0) fun x81 =>
  (o.cond x81
  (o.conv .u32 y63 fun x82 =>
  o.hbuild 1 [.int .u32 0] [(0, 1)] [x82] H67 fun x83 H84 =>
  o.append 1 4 y61 x83 H84 fun x85 H86 =>
  (f19_j20 o K C k33 y59 y60 x85 y62 H86))
  ((f19_j20 o K C k33 y59 y60 y61 y62 H67)))))
def f19_l12 (o : Ops) (K : Nat) (C : CallC) (k33 : SV → SV → SV → Heap → Rs) : SV → SV → SV → SV → SV → SV → SV → SV → Heap → (SV → SV → SV → SV → SV → SV → SV → SV → Heap → Rs) → Rs := fun y40 y41 y42 y43 y44 y45 y46 y47 H48 k49 =>
  o.lss y47 y46 fun x50 =>
  (o.cond x50
  (o.mul (.int .u64 10) y44 fun x51 =>
  o.stridx y40 y47 fun x52 =>
  o.sub x52 (.int .u8 48) fun x53 =>
  o.conv .u64 x53 fun x54 =>
  o.add x51 x54 fun x55 =>
  o.mul (.int .u64 10) y45 fun x56 =>
  o.add y47 (.int .i64 1) fun x57 =>
  k49 y40 y41 y42 y43 x55 x56 y46 x57 H48)
  (o.len y42 fun x58 =>
  (o.loop8 (f19_l16 o K C k33) K y40 y41 y42 y43 y44 y45 x58 (.int .i64 0) H48)))
def f19_l10 (o : Ops) (K : Nat) (C : CallC) : SV → SV → SV → Heap → (SV → SV → SV → Heap → Rs) → Rs := fun y29 y30 y31 H32 k33 =>
  o.slen y29 fun x34 =>
  o.gtr x34 (.int .i64 0) fun x35 =>
  (o.cond x35
  (o.slen y29 fun x36 =>
  o.sub x36 (.int .i64 1) fun x37 =>
  o.rem x37 (.int .i64 9) fun x38 =>
  o.add x38 (.int .i64 1) fun x39 =>
  (o.loop8 (f19_l12 o K C k33) K y29 y30 y31 x39 (.int .u64 0) (.int .u64 1) x39 (.int .i64 0) H32))
  (o.call (C 37 [y31] H32) fun x88 H89 =>
  o.call (C 45 [x88] H89) fun x90 H91 =>
  o.ext 0 x90 fun x92 =>
  o.ext 1 x90 fun x93 =>
  o.bstore 0 1 y30 x92 fun c94 =>
  o.resc 1 true (.box c94) fun r95 =>
  o.rest x93 fun r96 =>
  some (.tuple [r95, r96], H91)))
def f19_l3 (o : Ops) (K : Nat) (C : CallC) : SV → SV → SV → SV → Heap → (SV → SV → SV → SV → Heap → Rs) → Rs := fun y7 y8 y9 y10 H11 k12 =>
  o.lss y10 y9 fun x13 =>
  (o.cond x13
  (o.stridx y7 y10 fun x14 =>
  o.lss x14 (.int .u8 48) fun x15 =>
  (o.guard x15
  ((f19_j5 o K C k12 y7 y8 y9 y10 (.bool true) H11))
  (o.stridx y7 y10 fun x21 =>
  o.gtr x21 (.int .u8 57) fun x22 =>
  (f19_j5 o K C k12 y7 y8 y9 y10 x22 H11))
  (none)))
  (o.slen y7 fun x23 =>
  o.gtr x23 (.int .i64 4096) fun x24 =>
  (o.cond x24
  (o.build [.slice nilSl] [] [] fun x25 =>
  o.bstore 0 1 y8 x25 fun c26 =>
  o.resc 1 true (.box c26) fun r27 =>
  some (.tuple [r27, (.int .i64 3)], H11))
  ((o.loop3 (f19_l10 o K C) K y7 y8 (.slice nilSl) H11)))))
def f19_j1 (o : Ops) (K : Nat) (C : CallC) (q1_0 q1_2 q1_23 : SV) (H1_0 : Heap) : Rs :=
  (o.cond q1_23
  (o.build [.slice nilSl] [] [] fun x2 =>
  o.bstore 0 1 q1_2 x2 fun c3 =>
  o.resc 1 true (.box c3) fun r4 =>
  some (.tuple [r4, (.int .i64 12)], H1_0))
  (o.slen q1_0 fun x6 =>
  (o.loop4 (f19_l3 o K C) K q1_0 q1_2 x6 (.int .i64 0) H1_0)))
def f19 (o : Ops) (K : Nat) (C : CallC) (a0 : SV) (H : Heap) : Rs :=
  o.eql a0 (.str []) fun x1 =>
  (o.guard x1
  ((f19_j1 o K C a0 (.box [.slice nilSl]) (.bool true) H))
  (o.slen a0 fun x97 =>
  o.gtr x97 (.int .i64 1) fun x98 =>
  (o.guard x98
  (o.stridx a0 (.int .i64 0) fun x99 =>
  o.eql x99 (.int .u8 48) fun x100 =>
  (f19_j1 o K C a0 (.box [.slice nilSl]) x100 H))
  ((f19_j1 o K C a0 (.box [.slice nilSl]) (.bool false) H))
  (none)))
  (none))
/-- parquet/nat.Cmp -/
def f20_l3 (o : Ops) (K : Nat) (C : CallC) : SV → SV → SV → Heap → (SV → SV → SV → Heap → Rs) → Rs := fun y23 y24 y25 H26 k27 =>
  o.geq y25 (.int .i64 0) fun x28 =>
  (o.cond x28
  (o.lfld 0 y23 fun x29 =>
  o.lloadp 1 false y23 x29 fun x30 =>
  o.idx 1 x30 y25 fun x31 =>
  o.load 1 false x31 H26 fun x32 =>
  o.lfld 0 y24 fun x33 =>
  o.lloadp 1 false y24 x33 fun x34 =>
  o.idx 1 x34 y25 fun x35 =>
  o.load 1 false x35 H26 fun x36 =>
  o.lss x32 x36 fun x37 =>
  (o.cond x37
  (some ((.int .i64 (-1)), H26))
  (o.lfld 0 y23 fun x39 =>
  o.lloadp 1 false y23 x39 fun x40 =>
  o.idx 1 x40 y25 fun x41 =>
  o.load 1 false x41 H26 fun x42 =>
  o.lfld 0 y24 fun x43 =>
  o.lloadp 1 false y24 x43 fun x44 =>
  o.idx 1 x44 y25 fun x45 =>
  o.load 1 false x45 H26 fun x46 =>
  o.gtr x42 x46 fun x47 =>
  (o.cond x47
  (some ((.int .i64 1), H26))
  (o.sub y25 (.int .i64 1) fun x49 =>
  k27 y23 y24 x49 H26)))))
  (some ((.int .i64 0), H26)))
def f20 (o : Ops) (K : Nat) (C : CallC) (a0 a1 : SV) (H : Heap) : Rs :=
  o.bbox a0 fun c1 =>
  o.bbox a1 fun c2 =>
  o.lfld 0 (.box c1) fun x3 =>
  o.lloadp 1 false (.box c1) x3 fun x4 =>
  o.len x4 fun x5 =>
  o.lfld 0 (.box c2) fun x6 =>
  o.lloadp 1 false (.box c2) x6 fun x7 =>
  o.len x7 fun x8 =>
  o.neq x5 x8 fun x9 =>
  (o.cond x9
  (o.lfld 0 (.box c1) fun x10 =>
  o.lloadp 1 false (.box c1) x10 fun x11 =>
  o.len x11 fun x12 =>
  o.lfld 0 (.box c2) fun x13 =>
  o.lloadp 1 false (.box c2) x13 fun x14 =>
  o.len x14 fun x15 =>
  o.lss x12 x15 fun x16 =>
  (o.cond x16
  (some ((.int .i64 (-1)), H))
  (some ((.int .i64 1), H))))
  (o.lfld 0 (.box c1) fun x19 =>
  o.lloadp 1 false (.box c1) x19 fun x20 =>
  o.len x20 fun x21 =>
  o.sub x21 (.int .i64 1) fun x22 =>
  (o.loop3 (f20_l3 o K C) K (.box c1) (.box c2) x22 H)))
/-- parquet/nat.Gcd -/
def f21_l1 (o : Ops) (K : Nat) (C : CallC) : SV → SV → SV → Heap → (SV → SV → SV → Heap → Rs) → Rs := fun y3 y4 y5 H6 k7 =>
  o.lfld 0 y4 fun x8 =>
  o.lloadp 1 false y4 x8 fun x9 =>
  o.len x9 fun x10 =>
  o.gtr x10 (.int .i64 0) fun x11 =>
  (o.cond x11
  (o.lload 0 1 true y3 fun x12 =>
  o.lload 0 1 true y4 fun x13 =>
  o.call (C 34 [x12, x13] H6) fun x14 H15 =>
  o.ext 0 x14 fun x16 =>
  o.ext 1 x14 fun x17 =>
  o.ext 2 x14 fun x18 =>
  o.bstore 0 1 (.box [.slice nilSl]) x16 fun c19 =>
  o.bstore 0 1 (.box [.slice nilSl]) x17 fun c20 =>
  o.lload 0 1 true y4 fun x21 =>
  o.lload 0 1 true (.box c20) fun x22 =>
  o.bstore 0 1 y3 x21 fun c23 =>
  o.bstore 0 1 y4 x22 fun c24 =>
  k7 (.box c23) (.box c24) y5 H15)
  (o.lload 0 1 true y3 fun x25 =>
  o.bstore 0 1 y5 x25 fun c26 =>
  o.resc 1 true (.box c26) fun r27 =>
  some (r27, H6)))
def f21 (o : Ops) (K : Nat) (C : CallC) (a0 a1 : SV) (H : Heap) : Rs :=
  o.bbox a0 fun c1 =>
  o.bbox a1 fun c2 =>
  (o.loop3 (f21_l1 o K C) K (.box c1) (.box c2) (.box [.slice nilSl]) H)
/-- parquet/rat.one -/
def f22 (o : Ops) (K : Nat) (C : CallC) (H : Heap) : Rs :=
  o.call (C 29 [(.int .u64 1)] H) fun x1 H2 =>
  o.bstore 0 1 (.box [.slice nilSl]) x1 fun c3 =>
  o.resc 1 true (.box c3) fun r4 =>
  some (r4, H2)
/-- parquet/rat.low -/
def f23_j1 (o : Ops) (K : Nat) (C : CallC) (q1_2 q1_3 q1_4 : SV) (H1_0 : Heap) : Rs :=
  o.lload 0 1 true q1_3 fun x43 =>
  o.call (C 22 [] H1_0) fun x44 H45 =>
  o.call (C 32 [x43, x44] H45) fun x46 H47 =>
  o.ext 0 x46 fun x48 =>
  o.ext 1 x46 fun x49 =>
  o.bstore 0 1 (.box [.slice nilSl]) x48 fun c50 =>
  o.lload 0 2 true q1_2 fun x51 =>
  o.lload 0 1 true (.box c50) fun x52 =>
  o.build [.bool false, .slice nilSl, .slice nilSl] [(0, 2), (2, 1)] [x51, x52] fun x53 =>
  o.bstore 0 3 q1_4 x53 fun c54 =>
  o.resc 3 true (.box c54) fun r55 =>
  some (r55, H47)
def f23 (o : Ops) (K : Nat) (C : CallC) (a0 a1 : SV) (H : Heap) : Rs :=
  o.bbox a0 fun c1 =>
  o.bbox a1 fun c2 =>
  o.lload 0 2 true (.box c1) fun x3 =>
  o.call (C 28 [x3] H) fun x4 H5 =>
  o.lload 0 1 true (.box c2) fun x6 =>
  o.call (C 21 [x4, x6] H5) fun x7 H8 =>
  o.bstore 0 1 (.box [.slice nilSl]) x7 fun c9 =>
  o.lload 0 1 true (.box c9) fun x10 =>
  o.call (C 22 [] H8) fun x11 H12 =>
  o.call (C 20 [x10, x11] H12) fun x13 H14 =>
  o.gtr x13 (.int .i64 0) fun x15 =>
  (o.cond x15
  (o.lload 0 2 true (.box c1) fun x16 =>
  o.call (C 28 [x16] H14) fun x17 H18 =>
  o.lload 0 1 true (.box c9) fun x19 =>
  o.call (C 34 [x17, x19] H18) fun x20 H21 =>
  o.ext 0 x20 fun x22 =>
  o.ext 1 x20 fun x23 =>
  o.ext 2 x20 fun x24 =>
  o.bstore 0 1 (.box [.slice nilSl]) x22 fun c25 =>
  o.bstore 0 1 (.box [.slice nilSl]) x23 fun c26 =>
  o.lload 0 2 true (.box c1) fun x27 =>
  o.call (C 26 [x27] H21) fun x28 H29 =>
  o.lss x28 (.int .i64 0) fun x30 =>
  o.lload 0 1 true (.box c25) fun x31 =>
  o.call (C 24 [x30, x31] H29) fun x32 H33 =>
  o.bstore 0 2 (.box c1) x32 fun c34 =>
  o.lload 0 1 true (.box c2) fun x35 =>
  o.lload 0 1 true (.box c9) fun x36 =>
  o.call (C 34 [x35, x36] H33) fun x37 H38 =>
  o.ext 0 x37 fun x39 =>
  o.ext 1 x37 fun x40 =>
  o.ext 2 x37 fun x41 =>
  o.bstore 0 1 (.box c2) x39 fun c42 =>
  (f23_j1 o K C (.box c34) (.box c42) (.box [.bool false, .slice nilSl, .slice nilSl]) H38))
  ((f23_j1 o K C (.box c1) (.box c2) (.box [.bool false, .slice nilSl, .slice nilSl]) H14)))
/-- parquet/zint.Make -/
def f24_j1 (o : Ops) (K : Nat) (C : CallC) (q1_4 : SV) (H1_0 : Heap) : Rs :=
  o.resc 2 true q1_4 fun r9 =>
  some (r9, H1_0)
def f24 (o : Ops) (K : Nat) (C : CallC) (a0 a1 : SV) (H : Heap) : Rs :=
  o.bbox a1 fun c1 =>
  (o.guard a0
  (o.lload 0 1 true (.box c1) fun x2 =>
  o.call (C 30 [x2] H) fun x3 H4 =>
  o.gtr x3 (.int .i64 0) fun x5 =>
  o.lload 0 1 true (.box c1) fun x6 =>
  o.build [.bool false, .slice nilSl] [(0, 1), (1, 1)] [x5, x6] fun x7 =>
  o.bstore 0 2 (.box [.bool false, .slice nilSl]) x7 fun c8 =>
  (f24_j1 o K C (.box c8) H4))
  (o.lload 0 1 true (.box c1) fun x10 =>
  o.build [.bool false, .slice nilSl] [(0, 1), (1, 1)] [(.bool false), x10] fun x11 =>
  o.bstore 0 2 (.box [.bool false, .slice nilSl]) x11 fun c12 =>
  (f24_j1 o K C (.box c12) H))
  (none))
/-- parquet/rat.prime -/
def f25_j6 (o : Ops) (K : Nat) (C : CallC) (k20 : SV → SV → SV → Heap → Rs) (q6_5 q6_6 q6_7 : SV) (H6_0 : Heap) : Rs :=
  o.call (C 51 [q6_5, q6_6] H6_0) fun x27 H28 =>
  o.callv C [q6_7, x27] H28 fun x29 H30 =>
  k20 x29 q6_6 q6_7 H30
def f25_j10 (o : Ops) (K : Nat) (C : CallC) (q10_4 : SV) (H10_0 : Heap) : Rs :=
  o.rest q10_4 fun r38 =>
  some (r38, H10_0)
def f25_j9 (o : Ops) (K : Nat) (C : CallC) (q9_5 : SV) (H9_0 : Heap) : Rs :=
  o.len q9_5 fun x33 =>
  o.eql x33 (.int .i64 1) fun x34 =>
  (o.guard x34
  (o.idx 1 q9_5 (.int .i64 0) fun x35 =>
  o.load 1 false x35 H9_0 fun x36 =>
  o.eql x36 (.int .u64 1) fun x37 =>
  (f25_j10 o K C x37 H9_0))
  ((f25_j10 o K C (.bool false) H9_0))
  (none))
def f25_j4 (o : Ops) (K : Nat) (C : CallC) (k20 : SV → SV → SV → Heap → Rs) (q4_5 q4_6 q4_7 q4_33 : SV) (H4_0 : Heap) : Rs :=
  (o.cond q4_33
  (o.call (C 50 [q4_5, q4_6] H4_0) fun x25 H26 =>
  (o.cond x25
  ((f25_j6 o K C k20 q4_6 q4_5 q4_7 H26))
  ((f25_j6 o K C k20 q4_5 q4_6 q4_7 H26))))
  (o.len q4_5 fun x31 =>
  o.eql x31 (.int .i64 0) fun x32 =>
  (o.cond x32
  ((f25_j9 o K C q4_6 H4_0))
  ((f25_j9 o K C q4_5 H4_0)))))
def f25_l3 (o : Ops) (K : Nat) (C : CallC) : SV → SV → SV → Heap → (SV → SV → SV → Heap → Rs) → Rs := fun y16 y17 y18 H19 k20 =>
  o.len y16 fun x21 =>
  o.gtr x21 (.int .i64 0) fun x22 =>
  (o.guard x22
  (o.len y17 fun x23 =>
  o.gtr x23 (.int .i64 0) fun x24 =>
  (f25_j4 o K C k20 y16 y17 y18 x24 H19))
  ((f25_j4 o K C k20 y16 y17 y18 (.bool false) H19))
  (none))
def f25_j1 (o : Ops) (K : Nat) (C : CallC) (q1_5 q1_6 q1_19 : SV) (H1_0 : Heap) : Rs :=
  (o.cond q1_19
  (some ((.bool false), H1_0))
  (o.callv C [(.fn 48 [] []), q1_5] H1_0 fun x12 H13 =>
  o.callv C [(.fn 48 [] []), q1_6] H13 fun x14 H15 =>
  (o.loop3 (f25_l3 o K C) K x12 x14 (.fn 48 [] []) H15)))
def f25 (o : Ops) (K : Nat) (C : CallC) (a0 a1 : SV) (H : Heap) : Rs :=
  o.call (C 46 [a0] H) fun x1 H2 =>
  o.call (C 46 [a1] H2) fun x3 H4 =>
  o.call (C 47 [x1] H4) fun x5 H6 =>
  o.u_not x5 fun x7 =>
  (o.guard x7
  (o.call (C 47 [x3] H6) fun x8 H9 =>
  o.u_not x8 fun x10 =>
  (f25_j1 o K C x1 x3 x10 H9))
  ((f25_j1 o K C x1 x3 (.bool false) H6))
  (none))
/-- (parquet/zint.Int).Sign -/
def f26 (o : Ops) (K : Nat) (C : CallC) (a0 : SV) (H : Heap) : Rs :=
  o.bbox a0 fun c1 =>
  o.lfld 1 (.box c1) fun x2 =>
  o.lloadp 1 true (.box c1) x2 fun x3 =>
  o.call (C 30 [x3] H) fun x4 H5 =>
  o.eql x4 (.int .i64 0) fun x6 =>
  (o.cond x6
  (some ((.int .i64 0), H5))
  (o.lfld 0 (.box c1) fun x8 =>
  o.lloadp 1 false (.box c1) x8 fun x9 =>
  (o.cond x9
  (some ((.int .i64 (-1)), H5))
  (some ((.int .i64 1), H5)))))
/-- parquet/zint.Neg -/
def f27 (o : Ops) (K : Nat) (C : CallC) (a0 : SV) (H : Heap) : Rs :=
  o.bbox a0 fun c1 =>
  o.lfld 0 (.box c1) fun x2 =>
  o.lloadp 1 false (.box c1) x2 fun x3 =>
  o.u_not x3 fun x4 =>
  o.lfld 1 (.box c1) fun x5 =>
  o.lloadp 1 true (.box c1) x5 fun x6 =>
  o.call (C 24 [x4, x6] H) fun x7 H8 =>
  o.bstore 0 2 (.box [.bool false, .slice nilSl]) x7 fun c9 =>
  o.resc 2 true (.box c9) fun r10 =>
  some (r10, H8)
/-- (parquet/zint.Int).Abs -/
def f28 (o : Ops) (K : Nat) (C : CallC) (a0 : SV) (H : Heap) : Rs :=
  o.bbox a0 fun c1 =>
  o.lfld 1 (.box c1) fun x2 =>
  o.lloadp 1 true (.box c1) x2 fun x3 =>
  o.bstore 0 1 (.box [.slice nilSl]) x3 fun c4 =>
  o.resc 1 true (.box c4) fun r5 =>
  some (r5, H)
/-- parquet/nat.Of -/
def f29 (o : Ops) (K : Nat) (C : CallC) (a0 : SV) (H : Heap) : Rs :=
  o.conv .u32 a0 fun x1 =>
  o.shr a0 (.int .u64 32) fun x2 =>
  o.conv .u32 x2 fun x3 =>
  o.hbuild 1 [.int .u32 0, .int .u32 0] [(0, 1), (1, 1)] [x1, x3] H fun x4 H5 =>
  o.call (C 37 [x4] H5) fun x6 H7 =>
  o.bstore 0 1 (.box [.slice nilSl]) x6 fun c8 =>
  o.resc 1 true (.box c8) fun r9 =>
  some (r9, H7)
/-- (parquet/nat.Nat).Bits -/
def f30 (o : Ops) (K : Nat) (C : CallC) (a0 : SV) (H : Heap) : Rs :=
  o.bbox a0 fun c1 =>
  o.lfld 0 (.box c1) fun x2 =>
  o.lloadp 1 false (.box c1) x2 fun x3 =>
  o.len x3 fun x4 =>
  o.eql x4 (.int .i64 0) fun x5 =>
  (o.cond x5
  (some ((.int .i64 0), H))
  (o.lfld 0 (.box c1) fun x7 =>
  o.lloadp 1 false (.box c1) x7 fun x8 =>
  o.len x8 fun x9 =>
  o.sub x9 (.int .i64 1) fun x10 =>
  o.mul (.int .i64 32) x10 fun x11 =>
  o.lfld 0 (.box c1) fun x12 =>
  o.lloadp 1 false (.box c1) x12 fun x13 =>
  o.lfld 0 (.box c1) fun x14 =>
  o.lloadp 1 false (.box c1) x14 fun x15 =>
  o.len x15 fun x16 =>
  o.sub x16 (.int .i64 1) fun x17 =>
  o.idx 1 x13 x17 fun x18 =>
  o.load 1 false x18 H fun x19 =>
  o.call (C 52 [x19] H) fun x20 H21 =>
  o.add x11 x20 fun x22 =>
  o.rest x22 fun r23 =>
  some (r23, H21)))
/-- (parquet/rat.Rat).rest -/
def f31_j2 (o : Ops) (K : Nat) (C : CallC) (q2_2 q2_4 : SV) (H2_0 : Heap) : Rs :=
  o.lload 0 1 true q2_4 fun x34 =>
  o.bstore 0 1 q2_2 x34 fun c35 =>
  o.resc 1 true (.box c35) fun r36 =>
  some (r36, H2_0)
def f31_j1 (o : Ops) (K : Nat) (C : CallC) (q1_1 q1_2 q1_4 q1_24 : SV) (H1_0 : Heap) : Rs :=
  (o.cond q1_24
  (o.lload 0 3 true q1_1 fun x25 =>
  o.call (C 11 [x25] H1_0) fun x26 H27 =>
  o.lload 0 1 true q1_4 fun x28 =>
  o.call (C 32 [x26, x28] H27) fun x29 H30 =>
  o.ext 0 x29 fun x31 =>
  o.ext 1 x29 fun x32 =>
  o.bstore 0 1 q1_4 x31 fun c33 =>
  (f31_j2 o K C q1_2 (.box c33) H30))
  ((f31_j2 o K C q1_2 q1_4 H1_0)))
def f31 (o : Ops) (K : Nat) (C : CallC) (a0 : SV) (H : Heap) : Rs :=
  o.bbox a0 fun c1 =>
  o.lfld 0 (.box c1) fun x2 =>
  o.lloadp 2 true (.box c1) x2 fun x3 =>
  o.call (C 28 [x3] H) fun x4 H5 =>
  o.lload 0 3 true (.box c1) fun x6 =>
  o.call (C 11 [x6] H5) fun x7 H8 =>
  o.call (C 34 [x4, x7] H8) fun x9 H10 =>
  o.ext 0 x9 fun x11 =>
  o.ext 1 x9 fun x12 =>
  o.ext 2 x9 fun x13 =>
  o.bstore 0 1 (.box [.slice nilSl]) x11 fun c14 =>
  o.bstore 0 1 (.box [.slice nilSl]) x12 fun c15 =>
  o.lfld 0 (.box c1) fun x16 =>
  o.lloadp 2 true (.box c1) x16 fun x17 =>
  o.call (C 26 [x17] H10) fun x18 H19 =>
  o.lss x18 (.int .i64 0) fun x20 =>
  (o.guard x20
  (o.lload 0 1 true (.box c15) fun x21 =>
  o.call (C 30 [x21] H19) fun x22 H23 =>
  o.gtr x22 (.int .i64 0) fun x24 =>
  (f31_j1 o K C (.box c1) (.box [.slice nilSl]) (.box c15) x24 H23))
  ((f31_j1 o K C (.box c1) (.box [.slice nilSl]) (.box c15) (.bool false) H19))
  (none))
/-- parquet/nat.Sub -/
def f32 (o : Ops) (K : Nat) (C : CallC) (a0 a1 : SV) (H : Heap) : Rs :=
  o.bbox a0 fun c1 =>
  o.bbox a1 fun c2 =>
  o.lload 0 1 true (.box c1) fun x3 =>
  o.lload 0 1 true (.box c2) fun x4 =>
  o.call (C 20 [x3, x4] H) fun x5 H6 =>
  o.lss x5 (.int .i64 0) fun x7 =>
  (o.cond x7
  (o.build [.slice nilSl] [] [] fun x8 =>
  o.bstore 0 1 (.box [.slice nilSl]) x8 fun c9 =>
  o.resc 1 true (.box c9) fun r10 =>
  some (.tuple [r10, (.int .i64 10)], H6))
  (o.lfld 0 (.box c1) fun x12 =>
  o.lloadp 1 false (.box c1) x12 fun x13 =>
  o.len x13 fun x14 =>
  o.make 1 4 [.int .u32 0] x14 x14 H6 fun x15 H16 =>
  o.lfld 0 (.box c1) fun x17 =>
  o.lloadp 1 false (.box c1) x17 fun x18 =>
  o.copy 1 x15 x18 H16 fun x19 H20 =>
  o.lfld 0 (.box c2) fun x21 =>
  o.lloadp 1 false (.box c2) x21 fun x22 =>
  o.call (C 53 [x15, x22] H20) fun x23 H24 =>
  o.call (C 37 [x15] H24) fun x25 H26 =>
  o.bstore 0 1 (.box [.slice nilSl]) x25 fun c27 =>
  o.resc 1 true (.box c27) fun r28 =>
  some (.tuple [r28, (.int .i64 0)], H26)))
/-- parquet/zint.Add -/
def f33_j2 (o : Ops) (K : Nat) (C : CallC) (q2_2 q2_3 q2_4 : SV) (H2_0 : Heap) : Rs :=
  o.lfld 1 q2_2 fun x36 =>
  o.lloadp 1 true q2_2 x36 fun x37 =>
  o.lfld 1 q2_3 fun x38 =>
  o.lloadp 1 true q2_3 x38 fun x39 =>
  o.call (C 32 [x37, x39] H2_0) fun x40 H41 =>
  o.ext 0 x40 fun x42 =>
  o.ext 1 x40 fun x43 =>
  o.bstore 0 1 (.box [.slice nilSl]) x42 fun c44 =>
  o.lfld 0 q2_2 fun x45 =>
  o.lloadp 1 false q2_2 x45 fun x46 =>
  o.lload 0 1 true (.box c44) fun x47 =>
  o.call (C 24 [x46, x47] H41) fun x48 H49 =>
  o.bstore 0 2 q2_4 x48 fun c50 =>
  o.resc 2 true (.box c50) fun r51 =>
  o.rest x43 fun r52 =>
  some (.tuple [r51, r52], H49)
def f33 (o : Ops) (K : Nat) (C : CallC) (a0 a1 : SV) (H : Heap) : Rs :=
  o.bbox a0 fun c1 =>
  o.bbox a1 fun c2 =>
  o.lfld 0 (.box c1) fun x3 =>
  o.lloadp 1 false (.box c1) x3 fun x4 =>
  o.lfld 0 (.box c2) fun x5 =>
  o.lloadp 1 false (.box c2) x5 fun x6 =>
  o.b_eql x4 x6 fun x7 =>
  (o.cond x7
  (o.lfld 1 (.box c1) fun x8 =>
  o.lloadp 1 true (.box c1) x8 fun x9 =>
  o.lfld 1 (.box c2) fun x10 =>
  o.lloadp 1 true (.box c2) x10 fun x11 =>
  o.call (C 35 [x9, x11] H) fun x12 H13 =>
  o.ext 0 x12 fun x14 =>
  o.ext 1 x12 fun x15 =>
  o.bstore 0 1 (.box [.slice nilSl]) x14 fun c16 =>
  o.lfld 0 (.box c1) fun x17 =>
  o.lloadp 1 false (.box c1) x17 fun x18 =>
  o.lload 0 1 true (.box c16) fun x19 =>
  o.call (C 24 [x18, x19] H13) fun x20 H21 =>
  o.bstore 0 2 (.box [.bool false, .slice nilSl]) x20 fun c22 =>
  o.resc 2 true (.box c22) fun r23 =>
  o.rest x15 fun r24 =>
  some (.tuple [r23, r24], H21))
  (o.lfld 1 (.box c1) fun x25 =>
  o.lloadp 1 true (.box c1) x25 fun x26 =>
  o.lfld 1 (.box c2) fun x27 =>
  o.lloadp 1 true (.box c2) x27 fun x28 =>
  o.call (C 20 [x26, x28] H) fun x29 H30 =>
  o.lss x29 (.int .i64 0) fun x31 =>
  (o.cond x31
  (o.lload 0 2 true (.box c2) fun x32 =>
  o.lload 0 2 true (.box c1) fun x33 =>
  o.bstore 0 2 (.box c1) x32 fun c34 =>
  o.bstore 0 2 (.box c2) x33 fun c35 =>
  (f33_j2 o K C (.box c34) (.box c35) (.box [.bool false, .slice nilSl]) H30))
  ((f33_j2 o K C (.box c1) (.box c2) (.box [.bool false, .slice nilSl]) H30)))))
/-- parquet/nat.Div -/
def f34 (o : Ops) (K : Nat) (C : CallC) (a0 a1 : SV) (H : Heap) : Rs :=
  o.bbox a0 fun c1 =>
  o.bbox a1 fun c2 =>
  o.lfld 0 (.box c2) fun x3 =>
  o.lloadp 1 false (.box c2) x3 fun x4 =>
  o.len x4 fun x5 =>
  o.eql x5 (.int .i64 0) fun x6 =>
  (o.cond x6
  (o.build [.slice nilSl] [] [] fun x7 =>
  o.build [.slice nilSl] [] [] fun x8 =>
  o.bstore 0 1 (.box [.slice nilSl]) x7 fun c9 =>
  o.bstore 0 1 (.box [.slice nilSl]) x8 fun c10 =>
  o.resc 1 true (.box c9) fun r11 =>
  o.resc 1 true (.box c10) fun r12 =>
  some (.tuple [r11, r12, (.int .i64 11)], H))
  (o.lload 0 1 true (.box c1) fun x14 =>
  o.lload 0 1 true (.box c2) fun x15 =>
  o.call (C 20 [x14, x15] H) fun x16 H17 =>
  o.lss x16 (.int .i64 0) fun x18 =>
  (o.cond x18
  (o.build [.slice nilSl] [] [] fun x19 =>
  o.lload 0 1 true (.box c1) fun x20 =>
  o.bstore 0 1 (.box [.slice nilSl]) x19 fun c21 =>
  o.bstore 0 1 (.box [.slice nilSl]) x20 fun c22 =>
  o.resc 1 true (.box c21) fun r23 =>
  o.resc 1 true (.box c22) fun r24 =>
  some (.tuple [r23, r24, (.int .i64 0)], H17))
  (o.lfld 0 (.box c2) fun x26 =>
  o.lloadp 1 false (.box c2) x26 fun x27 =>
  o.len x27 fun x28 =>
  o.eql x28 (.int .i64 1) fun x29 =>
  (o.cond x29
  (o.lfld 0 (.box c1) fun x30 =>
  o.lloadp 1 false (.box c1) x30 fun x31 =>
  o.append 1 4 (.slice nilSl) x31 H17 fun x32 H33 =>
  o.lfld 0 (.box c2) fun x34 =>
  o.lloadp 1 false (.box c2) x34 fun x35 =>
  o.idx 1 x35 (.int .i64 0) fun x36 =>
  o.load 1 false x36 H33 fun x37 =>
  o.call (C 36 [x32, x37] H33) fun x38 H39 =>
  o.call (C 37 [x32] H39) fun x40 H41 =>
  o.conv .u64 x38 fun x42 =>
  o.call (C 29 [x42] H41) fun x43 H44 =>
  o.bstore 0 1 (.box [.slice nilSl]) x40 fun c45 =>
  o.bstore 0 1 (.box [.slice nilSl]) x43 fun c46 =>
  o.resc 1 true (.box c45) fun r47 =>
  o.resc 1 true (.box c46) fun r48 =>
  some (.tuple [r47, r48, (.int .i64 0)], H44))
  (o.lload 0 1 true (.box c1) fun x50 =>
  o.lload 0 1 true (.box c2) fun x51 =>
  o.call (C 54 [x50, x51] H17) fun x52 H53 =>
  o.ext 0 x52 fun x54 =>
  o.ext 1 x52 fun x55 =>
  o.bstore 0 1 (.box [.slice nilSl]) x54 fun c56 =>
  o.bstore 0 1 (.box [.slice nilSl]) x55 fun c57 =>
  o.lload 0 1 true (.box c56) fun x58 =>
  o.lload 0 1 true (.box c57) fun x59 =>
  o.bstore 0 1 (.box c56) x58 fun c60 =>
  o.bstore 0 1 (.box c57) x59 fun c61 =>
  o.resc 1 true (.box c60) fun r62 =>
  o.resc 1 true (.box c61) fun r63 =>
  some (.tuple [r62, r63, (.int .i64 0)], H53)))))))
/-- parquet/nat.Add -/
def f35_j4 (o : Ops) (K : Nat) (C : CallC) (k32 : SV → SV → SV → SV → SV → SV → Heap → Rs) (q4_3 q4_4 q4_6 q4_7 q4_8 q4_28 q4_29 : SV) (H4_0 : Heap) : Rs :=
  o.conv .u32 q4_7 fun x48 =>
  o.idx 1 q4_6 q4_8 fun x49 =>
  o.store 1 x49 x48 H4_0 fun H51 =>
  o.shr q4_7 (.int .u64 32) fun x52 =>
  o.add q4_29 (.int .i64 1) fun x53 =>
  k32 q4_3 q4_4 q4_6 x52 q4_28 x53 H51
def f35_l2 (o : Ops) (K : Nat) (C : CallC) : SV → SV → SV → SV → SV → SV → Heap → (SV → SV → SV → SV → SV → SV → Heap → Rs) → Rs := fun y25 y26 y27 y28 y29 y30 H31 k32 =>
  o.lss y30 y29 fun x33 =>
  (o.cond x33
  (o.idx 1 y27 y30 fun x34 =>
  o.load 1 false x34 H31 fun x35 =>
  o.conv .u64 x35 fun x36 =>
  o.add y28 x36 fun x37 =>
  o.lfld 0 y25 fun x38 =>
  o.lloadp 1 false y25 x38 fun x39 =>
  o.len x39 fun x40 =>
  o.lss y30 x40 fun x41 =>
  (o.cond x41
  (o.lfld 0 y25 fun x42 =>
  o.lloadp 1 false y25 x42 fun x43 =>
  o.idx 1 x43 y30 fun x44 =>
  o.load 1 false x44 H31 fun x45 =>
  o.conv .u64 x45 fun x46 =>
  o.add x37 x46 fun x47 =>
  (f35_j4 o K C k32 y25 y26 y27 x47 y30 y29 y30 H31))
  ((f35_j4 o K C k32 y25 y26 y27 x37 y30 y29 y30 H31))))
  (o.call (C 37 [y27] H31) fun x54 H55 =>
  o.call (C 45 [x54] H55) fun x56 H57 =>
  o.ext 0 x56 fun x58 =>
  o.ext 1 x56 fun x59 =>
  o.bstore 0 1 y26 x58 fun c60 =>
  o.resc 1 true (.box c60) fun r61 =>
  o.rest x59 fun r62 =>
  some (.tuple [r61, r62], H57)))
def f35_j1 (o : Ops) (K : Nat) (C : CallC) (q1_2 q1_3 q1_4 : SV) (H1_0 : Heap) : Rs :=
  o.lfld 0 q1_2 fun x14 =>
  o.lloadp 1 false q1_2 x14 fun x15 =>
  o.len x15 fun x16 =>
  o.add x16 (.int .i64 1) fun x17 =>
  o.make 1 4 [.int .u32 0] x17 x17 H1_0 fun x18 H19 =>
  o.lfld 0 q1_2 fun x20 =>
  o.lloadp 1 false q1_2 x20 fun x21 =>
  o.copy 1 x18 x21 H19 fun x22 H23 =>
  o.len x18 fun x24 =>
  (o.loop6 (f35_l2 o K C) K q1_3 q1_4 x18 (.int .u64 0) x24 (.int .i64 0) H23)
def f35 (o : Ops) (K : Nat) (C : CallC) (a0 a1 : SV) (H : Heap) : Rs :=
  o.bbox a0 fun c1 =>
  o.bbox a1 fun c2 =>
  o.lfld 0 (.box c1) fun x3 =>
  o.lloadp 1 false (.box c1) x3 fun x4 =>
  o.len x4 fun x5 =>
  o.lfld 0 (.box c2) fun x6 =>
  o.lloadp 1 false (.box c2) x6 fun x7 =>
  o.len x7 fun x8 =>
  o.lss x5 x8 fun x9 =>
  (o.cond x9
  (o.lload 0 1 true (.box c2) fun x10 =>
  o.lload 0 1 true (.box c1) fun x11 =>
  o.bstore 0 1 (.box c1) x10 fun c12 =>
  o.bstore 0 1 (.box c2) x11 fun c13 =>
  (f35_j1 o K C (.box c12) (.box c13) (.box [.slice nilSl]) H))
  ((f35_j1 o K C (.box c1) (.box c2) (.box [.slice nilSl]) H)))
/-- parquet/nat.short -/
def f36_l1 (o : Ops) (K : Nat) (C : CallC) : SV → SV → SV → SV → Heap → (SV → SV → SV → SV → Heap → Rs) → Rs := fun y3 y4 y5 y6 H7 k8 =>
  o.geq y6 (.int .i64 0) fun x9 =>
  (o.cond x9
  (o.shl y5 (.int .u64 32) fun x10 =>
  o.idx 1 y3 y6 fun x11 =>
  o.load 1 false x11 H7 fun x12 =>
  o.conv .u64 x12 fun x13 =>
  o.or x10 x13 fun x14 =>
  o.conv .u64 y4 fun x15 =>
  o.quo x14 x15 fun x16 =>
  o.conv .u32 x16 fun x17 =>
  o.conv .u64 y4 fun x18 =>
  o.rem x14 x18 fun x19 =>
  o.idx 1 y3 y6 fun x20 =>
  o.store 1 x20 x17 H7 fun H22 =>
  o.sub y6 (.int .i64 1) fun x23 =>
  k8 y3 y4 x19 x23 H22)
  (o.conv .u32 y5 fun x24 =>
  o.rest x24 fun r25 =>
  some (r25, H7)))
def f36 (o : Ops) (K : Nat) (C : CallC) (a0 a1 : SV) (H : Heap) : Rs :=
  o.len a0 fun x1 =>
  o.sub x1 (.int .i64 1) fun x2 =>
  (o.loop4 (f36_l1 o K C) K a0 a1 (.int .u64 0) x2 H)
/-- parquet/nat.cut -/
def f37_j2 (o : Ops) (K : Nat) (C : CallC) (k6 : SV → SV → SV → Heap → Rs) (q2_0 q2_2 q2_3 q2_15 : SV) (H2_0 : Heap) : Rs :=
  (o.cond q2_15
  (o.sub q2_3 (.int .i64 1) fun x12 =>
  k6 q2_0 q2_2 x12 H2_0)
  (o.slice011 1 q2_0 q2_3 q2_3 H2_0 fun x13 =>
  o.build [.slice nilSl] [(0, 1)] [x13] fun x14 =>
  o.bstore 0 1 q2_2 x14 fun c15 =>
  o.resc 1 true (.box c15) fun r16 =>
  some (r16, H2_0)))
def f37_l1 (o : Ops) (K : Nat) (C : CallC) : SV → SV → SV → Heap → (SV → SV → SV → Heap → Rs) → Rs := fun y2 y3 y4 H5 k6 =>
  o.gtr y4 (.int .i64 0) fun x7 =>
  (o.guard x7
  (o.sub y4 (.int .i64 1) fun x8 =>
  o.idx 1 y2 x8 fun x9 =>
  o.load 1 false x9 H5 fun x10 =>
  o.eql x10 (.int .u32 0) fun x11 =>
  (f37_j2 o K C k6 y2 y3 y4 x11 H5))
  ((f37_j2 o K C k6 y2 y3 y4 (.bool false) H5))
  (none))
def f37 (o : Ops) (K : Nat) (C : CallC) (a0 : SV) (H : Heap) : Rs :=
  o.len a0 fun x1 =>
  (o.loop3 (f37_l1 o K C) K a0 (.box [.slice nilSl]) x1 H)
/-- parquet/rat.Add -/
def f38 (o : Ops) (K : Nat) (C : CallC) (a0 a1 : SV) (H : Heap) : Rs :=
  o.bbox a0 fun c1 =>
  o.bbox a1 fun c2 =>
  o.lload 0 3 true (.box c1) fun x3 =>
  o.lload 0 3 true (.box c2) fun x4 =>
  o.call (C 55 [x3, x4, (.fn 33 [] [])] H) fun x5 H6 =>
  o.ext 0 x5 fun x7 =>
  o.ext 1 x5 fun x8 =>
  o.bstore 0 3 (.box [.bool false, .slice nilSl, .slice nilSl]) x7 fun c9 =>
  o.resc 3 true (.box c9) fun r10 =>
  o.rest x8 fun r11 =>
  some (.tuple [r10, r11], H6)
/-- parquet/rat.Div -/
def f39 (o : Ops) (K : Nat) (C : CallC) (a0 a1 : SV) (H : Heap) : Rs :=
  o.bbox a0 fun c1 =>
  o.bbox a1 fun c2 =>
  o.lload 0 3 true (.box c2) fun x3 =>
  o.call (C 13 [x3] H) fun x4 H5 =>
  o.eql x4 (.int .i64 0) fun x6 =>
  (o.cond x6
  (o.build [.bool false, .slice nilSl, .slice nilSl] [] [] fun x7 =>
  o.bstore 0 3 (.box [.bool false, .slice nilSl, .slice nilSl]) x7 fun c8 =>
  o.resc 3 true (.box c8) fun r9 =>
  some (.tuple [r9, (.int .i64 11)], H5))
  (o.lload 0 3 true (.box c1) fun x11 =>
  o.lload 0 3 true (.box c2) fun x12 =>
  o.call (C 13 [x12] H5) fun x13 H14 =>
  o.lss x13 (.int .i64 0) fun x15 =>
  o.lload 0 3 true (.box c2) fun x16 =>
  o.call (C 11 [x16] H14) fun x17 H18 =>
  o.call (C 24 [x15, x17] H18) fun x19 H20 =>
  o.lfld 0 (.box c2) fun x21 =>
  o.lloadp 2 true (.box c2) x21 fun x22 =>
  o.call (C 28 [x22] H20) fun x23 H24 =>
  o.call (C 56 [x11, x19, x23] H24) fun x25 H26 =>
  o.ext 0 x25 fun x27 =>
  o.ext 1 x25 fun x28 =>
  o.bstore 0 3 (.box [.bool false, .slice nilSl, .slice nilSl]) x27 fun c29 =>
  o.resc 3 true (.box c29) fun r30 =>
  o.rest x28 fun r31 =>
  some (.tuple [r30, r31], H26)))
/-- parquet/rat.Cmp -/
def f40_j3 (o : Ops) (K : Nat) (C : CallC) (k11 : SV → SV → SV → Heap → Rs) (q3_5 q3_6 q3_7 q3_11 q3_12 q3_31 : SV) (H3_0 : Heap) : Rs :=
  (o.cond q3_31
  (some ((.int .i64 0), H3_0))
  (o.lload 0 1 true q3_11 fun x44 =>
  o.call (C 30 [x44] H3_0) fun x45 H46 =>
  o.eql x45 (.int .i64 0) fun x47 =>
  (o.cond x47
  (o.u_neg q3_7 fun x48 =>
  o.rest x48 fun r49 =>
  some (r49, H46))
  (o.lload 0 1 true q3_12 fun x50 =>
  o.call (C 30 [x50] H46) fun x51 H52 =>
  o.eql x51 (.int .i64 0) fun x53 =>
  (o.cond x53
  (o.rest q3_7 fun r54 =>
  some (r54, H52))
  (o.lload 0 3 true q3_5 fun x55 =>
  o.call (C 11 [x55] H52) fun x56 H57 =>
  o.lload 0 1 true q3_11 fun x58 =>
  o.call (C 58 [x56, x58] H57) fun x59 H60 =>
  o.lload 0 3 true q3_6 fun x61 =>
  o.call (C 11 [x61] H60) fun x62 H63 =>
  o.lload 0 1 true q3_12 fun x64 =>
  o.call (C 58 [x62, x64] H63) fun x65 H66 =>
  o.u_neg q3_7 fun x67 =>
  o.bstore 0 3 q3_5 x59 fun c68 =>
  o.bstore 0 3 q3_6 x65 fun c69 =>
  k11 (.box c68) (.box c69) x67 H66))))))
def f40_l1 (o : Ops) (K : Nat) (C : CallC) : SV → SV → SV → Heap → (SV → SV → SV → Heap → Rs) → Rs := fun y7 y8 y9 H10 k11 =>
  o.lload 0 3 true y7 fun x12 =>
  o.call (C 10 [x12] H10) fun x13 H14 =>
  o.lload 0 3 true y8 fun x15 =>
  o.call (C 10 [x15] H14) fun x16 H17 =>
  o.bstore 0 2 (.box [.bool false, .slice nilSl]) x13 fun c18 =>
  o.bstore 0 2 (.box [.bool false, .slice nilSl]) x16 fun c19 =>
  o.lload 0 2 true (.box c18) fun x20 =>
  o.lload 0 2 true (.box c19) fun x21 =>
  o.call (C 57 [x20, x21] H17) fun x22 H23 =>
  o.neq x22 (.int .i64 0) fun x24 =>
  (o.cond x24
  (o.mul y9 x22 fun x25 =>
  o.rest x25 fun r26 =>
  some (r26, H23))
  (o.lload 0 3 true y7 fun x27 =>
  o.call (C 31 [x27] H23) fun x28 H29 =>
  o.lload 0 3 true y8 fun x30 =>
  o.call (C 31 [x30] H29) fun x31 H32 =>
  o.bstore 0 1 (.box [.slice nilSl]) x28 fun c33 =>
  o.bstore 0 1 (.box [.slice nilSl]) x31 fun c34 =>
  o.lload 0 1 true (.box c33) fun x35 =>
  o.call (C 30 [x35] H32) fun x36 H37 =>
  o.eql x36 (.int .i64 0) fun x38 =>
  (o.guard x38
  (o.lload 0 1 true (.box c34) fun x39 =>
  o.call (C 30 [x39] H37) fun x40 H41 =>
  o.eql x40 (.int .i64 0) fun x42 =>
  (f40_j3 o K C k11 y7 y8 y9 (.box c33) (.box c34) x42 H41))
  ((f40_j3 o K C k11 y7 y8 y9 (.box c33) (.box c34) (.bool false) H37))
  (none))))
def f40 (o : Ops) (K : Nat) (C : CallC) (a0 a1 : SV) (H : Heap) : Rs :=
  o.bbox a0 fun c1 =>
  o.bbox a1 fun c2 =>
  o.lload 0 3 true (.box c1) fun x3 =>
  o.lload 0 3 true (.box c2) fun x4 =>
  o.bstore 0 3 (.box [.bool false, .slice nilSl, .slice nilSl]) x3 fun c5 =>
  o.bstore 0 3 (.box [.bool false, .slice nilSl, .slice nilSl]) x4 fun c6 =>
  (o.loop3 (f40_l1 o K C) K (.box c5) (.box c6) (.int .i64 1) H)
/-- internal/stringslite.Cut -/
def f41 (o : Ops) (K : Nat) (C : CallC) (a0 a1 : SV) (H : Heap) : Rs :=
  o.call (C 59 [a0, a1] H) fun x1 H2 =>
  o.geq x1 (.int .i64 0) fun x3 =>
  (o.cond x3
  (o.strcut01 a0 x1 fun x4 =>
  o.slen a1 fun x5 =>
  o.add x1 x5 fun x6 =>
  o.strcut10 a0 x6 fun x7 =>
  o.rest x4 fun r8 =>
  o.rest x7 fun r9 =>
  some (.tuple [r8, r9, (.bool true)], H2))
  (o.rest a0 fun r11 =>
  some (.tuple [r11, (.str []), (.bool false)], H2)))
/-- internal/stringslite.HasPrefix -/
def f42_j1 (o : Ops) (K : Nat) (C : CallC) (q1_4 : SV) (H1_0 : Heap) : Rs :=
  o.rest q1_4 fun r7 =>
  some (r7, H1_0)
def f42 (o : Ops) (K : Nat) (C : CallC) (a0 a1 : SV) (H : Heap) : Rs :=
  o.slen a0 fun x1 =>
  o.slen a1 fun x2 =>
  o.geq x1 x2 fun x3 =>
  (o.guard x3
  (o.slen a1 fun x4 =>
  o.strcut01 a0 x4 fun x5 =>
  o.eql x5 a1 fun x6 =>
  (f42_j1 o K C x6 H))
  ((f42_j1 o K C (.bool false) H))
  (none))
/-- internal/stringslite.TrimPrefix -/
def f43 (o : Ops) (K : Nat) (C : CallC) (a0 a1 : SV) (H : Heap) : Rs :=
  o.call (C 42 [a0, a1] H) fun x1 H2 =>
  (o.cond x1
  (o.slen a1 fun x3 =>
  o.strcut10 a0 x3 fun x4 =>
  o.rest x4 fun r5 =>
  some (r5, H2))
  (o.rest a0 fun r6 =>
  some (r6, H2)))
/-- strings.Trim -/
def f44_j3 (o : Ops) (K : Nat) (C : CallC) (q3_0 q3_1 q3_21 : SV) (H3_0 : Heap) : Rs :=
  (o.cond q3_21
  (o.stridx q3_1 (.int .i64 0) fun x7 =>
  o.call (C 61 [q3_0, x7] H3_0) fun x8 H9 =>
  o.stridx q3_1 (.int .i64 0) fun x10 =>
  o.call (C 60 [x8, x10] H9) fun x11 H12 =>
  o.rest x11 fun r13 =>
  some (r13, H12))
  (o.call (C 62 [q3_1] H3_0) fun x14 H15 =>
  o.ext 0 x14 fun x16 =>
  o.ext 1 x14 fun x17 =>
  o.alloc [.bool false, .bool false, .bool false, .bool false, .bool false, .bool false, .bool false, .bool false, .bool false, .bool false, .bool false, .bool false, .bool false, .bool false, .bool false, .bool false, .bool false, .bool false, .bool false, .bool false, .bool false, .bool false, .bool false, .bool false, .bool false, .bool false, .bool false, .bool false, .bool false, .bool false, .bool false, .bool false, .bool false, .bool false, .bool false, .bool false, .bool false, .bool false, .bool false, .bool false, .bool false, .bool false, .bool false, .bool false, .bool false, .bool false, .bool false, .bool false, .bool false, .bool false, .bool false, .bool false, .bool false, .bool false, .bool false, .bool false, .bool false, .bool false, .bool false, .bool false, .bool false, .bool false, .bool false, .bool false, .bool false, .bool false, .bool false, .bool false, .bool false, .bool false, .bool false, .bool false, .bool false, .bool false, .bool false, .bool false, .bool false, .bool false, .bool false, .bool false, .bool false, .bool false, .bool false, .bool false, .bool false, .bool false, .bool false, .bool false, .bool false, .bool false, .bool false, .bool false, .bool false, .bool false, .bool false, .bool false, .bool false, .bool false, .bool false, .bool false, .bool false, .bool false, .bool false, .bool false, .bool false, .bool false, .bool false, .bool false, .bool false, .bool false, .bool false, .bool false, .bool false, .bool false, .bool false, .bool false, .bool false, .bool false, .bool false, .bool false, .bool false, .bool false, .bool false, .bool false, .bool false, .bool false, .bool false, .bool false, .bool false, .bool false, .bool false, .bool false, .bool false, .bool false, .bool false, .bool false, .bool false, .bool false, .bool false, .bool false, .bool false, .bool false, .bool false, .bool false, .bool false, .bool false, .bool false, .bool false, .bool false, .bool false, .bool false, .bool false, .bool false, .bool false, .bool false, .bool false, .bool false, .bool false, .bool false, .bool false, .bool false, .bool false, .bool false, .bool false, .bool false, .bool false, .bool false, .bool false, .bool false, .bool false, .bool false, .bool false, .bool false, .bool false, .bool false, .bool false, .bool false, .bool false, .bool false, .bool false, .bool false, .bool false, .bool false, .bool false, .bool false, .bool false, .bool false, .bool false, .bool false, .bool false, .bool false, .bool false, .bool false, .bool false, .bool false, .bool false, .bool false, .bool false, .bool false, .bool false, .bool false, .bool false, .bool false, .bool false, .bool false, .bool false, .bool false, .bool false, .bool false, .bool false, .bool false, .bool false, .bool false, .bool false, .bool false, .bool false, .bool false, .bool false, .bool false, .bool false, .bool false, .bool false, .bool false, .bool false, .bool false, .bool false, .bool false, .bool false, .bool false, .bool false, .bool false, .bool false, .bool false, .bool false, .bool false, .bool false, .bool false, .bool false, .bool false, .bool false, .bool false, .bool false, .bool false, .bool false, .bool false, .bool false, .bool false, .bool false, .bool false, .bool false, .bool false, .bool false, .bool false, .bool false, .bool false, .bool false] H15 fun x18 H19 =>
  o.store 256 x18 x16 H19 fun H21 =>
  (o.cond x17
  (o.call (C 64 [q3_0, x18] H21) fun x22 H23 =>
  o.call (C 63 [x22, x18] H23) fun x24 H25 =>
  o.rest x24 fun r26 =>
  some (r26, H25))
  (o.call (C 66 [q3_0, q3_1] H21) fun x27 H28 =>
  o.call (C 65 [x27, q3_1] H28) fun x29 H30 =>
  o.rest x29 fun r31 =>
  some (r31, H30)))))
def f44_j1 (o : Ops) (K : Nat) (C : CallC) (q1_0 q1_1 q1_12 : SV) (H1_0 : Heap) : Rs :=
  (o.cond q1_12
  (o.rest q1_0 fun r2 =>
  some (r2, H1_0))
  (o.slen q1_1 fun x3 =>
  o.eql x3 (.int .i64 1) fun x4 =>
  (o.guard x4
  (o.stridx q1_1 (.int .i64 0) fun x5 =>
  o.lss x5 (.int .u8 128) fun x6 =>
  (f44_j3 o K C q1_0 q1_1 x6 H1_0))
  ((f44_j3 o K C q1_0 q1_1 (.bool false) H1_0))
  (none))))
def f44 (o : Ops) (K : Nat) (C : CallC) (a0 a1 : SV) (H : Heap) : Rs :=
  o.eql a0 (.str []) fun x1 =>
  (o.guard x1
  ((f44_j1 o K C a0 a1 (.bool true) H))
  (o.eql a1 (.str []) fun x32 =>
  (f44_j1 o K C a0 a1 x32 H))
  (none))
/-- (parquet/nat.Nat).fits -/
def f45 (o : Ops) (K : Nat) (C : CallC) (a0 : SV) (H : Heap) : Rs :=
  o.bbox a0 fun c1 =>
  o.lload 0 1 true (.box c1) fun x2 =>
  o.call (C 30 [x2] H) fun x3 H4 =>
  o.gtr x3 (.int .i64 4096) fun x5 =>
  (o.cond x5
  (o.build [.slice nilSl] [] [] fun x6 =>
  o.bstore 0 1 (.box [.slice nilSl]) x6 fun c7 =>
  o.resc 1 true (.box c7) fun r8 =>
  some (.tuple [r8, (.int .i64 3)], H4))
  (o.lload 0 1 true (.box c1) fun x10 =>
  o.bstore 0 1 (.box [.slice nilSl]) x10 fun c11 =>
  o.resc 1 true (.box c11) fun r12 =>
  some (.tuple [r12, (.int .i64 0)], H4)))
/-- parquet/rat.long -/
def f46_l3 (o : Ops) (K : Nat) (C : CallC) (k4 : SV → SV → Heap → Rs) : SV → SV → SV → SV → Heap → (SV → SV → SV → SV → Heap → Rs) → Rs := fun y13 y14 y15 y16 H17 k18 =>
  o.max [] fun x19 =>
  o.ext 0 x19 fun x20 =>
  (o.cond x20
  (o.ext 2 x19 fun x21 =>
  o.mul (.int .u64 10) y16 fun x22 =>
  o.sub x21 (.int .i32 48) fun x23 =>
  o.conv .u64 x23 fun x24 =>
  o.add x22 x24 fun x25 =>
  k18 y13 y14 y15 x25 H17)
  (o.hbuild 1 [.int .u64 0] [(0, 1)] [y16] H17 fun x26 H27 =>
  o.append 1 8 y14 x26 H27 fun x28 H29 =>
  o.strcut10 y13 y15 fun x30 =>
  k4 x30 x28 H29))
def f46_l1 (o : Ops) (K : Nat) (C : CallC) : SV → SV → Heap → (SV → SV → Heap → Rs) → Rs := fun y1 y2 H3 k4 =>
  o.slen y1 fun x5 =>
  o.gtr x5 (.int .i64 0) fun x6 =>
  (o.cond x6
  (o.slen y1 fun x7 =>
  o.sub x7 (.int .i64 1) fun x8 =>
  o.rem x8 (.int .i64 9) fun x9 =>
  o.add x9 (.int .i64 1) fun x10 =>
  o.strcut01 y1 x10 fun x11 =>
  o.max [] fun x12 =>
  (o.loop4 (f46_l3 o K C k4) K y1 y2 x10 (.int .u64 0) H3))
  (o.call (C 67 [y2] H3) fun x31 H32 =>
  o.rest x31 fun r33 =>
  some (r33, H32)))
def f46 (o : Ops) (K : Nat) (C : CallC) (a0 : SV) (H : Heap) : Rs :=
  (o.loop2 (f46_l1 o K C) K a0 (.slice nilSl) H)
/-- (parquet/rat.number).odd -/
def f47_j1 (o : Ops) (K : Nat) (C : CallC) (q1_2 : SV) (H1_0 : Heap) : Rs :=
  o.rest q1_2 fun r9 =>
  some (r9, H1_0)
def f47 (o : Ops) (K : Nat) (C : CallC) (a0 : SV) (H : Heap) : Rs :=
  o.len a0 fun x1 =>
  o.gtr x1 (.int .i64 0) fun x2 =>
  (o.guard x2
  (o.len a0 fun x3 =>
  o.sub x3 (.int .i64 1) fun x4 =>
  o.idx 1 a0 x4 fun x5 =>
  o.load 1 false x5 H fun x6 =>
  o.rem x6 (.int .u64 2) fun x7 =>
  o.eql x7 (.int .u64 1) fun x8 =>
  (f47_j1 o K C x8 H))
  ((f47_j1 o K C (.bool false) H))
  (none))
/-- parquet/rat.prime$1 -/
def f48_j2 (o : Ops) (K : Nat) (C : CallC) (k3 : SV → Heap → Rs) (q2_0 q2_10 : SV) (H2_0 : Heap) : Rs :=
  (o.cond q2_10
  (o.call (C 49 [q2_0] H2_0) fun x9 H10 =>
  k3 x9 H10)
  (o.rest q2_0 fun r11 =>
  some (r11, H2_0)))
def f48_l1 (o : Ops) (K : Nat) (C : CallC) : SV → Heap → (SV → Heap → Rs) → Rs := fun y1 H2 k3 =>
  o.len y1 fun x4 =>
  o.gtr x4 (.int .i64 0) fun x5 =>
  (o.guard x5
  (o.call (C 47 [y1] H2) fun x6 H7 =>
  o.u_not x6 fun x8 =>
  (f48_j2 o K C k3 y1 x8 H7))
  ((f48_j2 o K C k3 y1 (.bool false) H2))
  (none))
def f48 (o : Ops) (K : Nat) (C : CallC) (a0 : SV) (H : Heap) : Rs :=
  (o.loop1 (f48_l1 o K C) K a0 H)
/-- (parquet/rat.number).half -/
def f49_l1 (o : Ops) (K : Nat) (C : CallC) : SV → SV → SV → SV → Heap → (SV → SV → SV → SV → Heap → Rs) → Rs := fun y4 y5 y6 y7 H8 k9 =>
  o.lss y7 y6 fun x10 =>
  (o.cond x10
  (o.mul y5 (.int .u64 1000000000) fun x11 =>
  o.idx 1 y4 y7 fun x12 =>
  o.load 1 false x12 H8 fun x13 =>
  o.add x11 x13 fun x14 =>
  o.quo x14 (.int .u64 2) fun x15 =>
  o.rem x14 (.int .u64 2) fun x16 =>
  o.idx 1 y4 y7 fun x17 =>
  o.store 1 x17 x15 H8 fun H19 =>
  o.add y7 (.int .i64 1) fun x20 =>
  k9 y4 x16 y6 x20 H19)
  (o.call (C 67 [y4] H8) fun x21 H22 =>
  o.rest x21 fun r23 =>
  some (r23, H22)))
def f49 (o : Ops) (K : Nat) (C : CallC) (a0 : SV) (H : Heap) : Rs :=
  o.append 1 8 (.slice nilSl) a0 H fun x1 H2 =>
  o.len x1 fun x3 =>
  (o.loop4 (f49_l1 o K C) K x1 (.int .u64 0) x3 (.int .i64 0) H2)
/-- (parquet/rat.number).below -/
def f50_l2 (o : Ops) (K : Nat) (C : CallC) : SV → SV → SV → SV → Heap → (SV → SV → SV → SV → Heap → Rs) → Rs := fun y9 y10 y11 y12 H13 k14 =>
  o.lss y12 y11 fun x15 =>
  (o.cond x15
  (o.idx 1 y9 y12 fun x16 =>
  o.load 1 false x16 H13 fun x17 =>
  o.idx 1 y10 y12 fun x18 =>
  o.load 1 false x18 H13 fun x19 =>
  o.neq x17 x19 fun x20 =>
  (o.cond x20
  (o.idx 1 y9 y12 fun x21 =>
  o.load 1 false x21 H13 fun x22 =>
  o.idx 1 y10 y12 fun x23 =>
  o.load 1 false x23 H13 fun x24 =>
  o.lss x22 x24 fun x25 =>
  o.rest x25 fun r26 =>
  some (r26, H13))
  (o.add y12 (.int .i64 1) fun x27 =>
  k14 y9 y10 y11 x27 H13)))
  (some ((.bool false), H13)))
def f50 (o : Ops) (K : Nat) (C : CallC) (a0 a1 : SV) (H : Heap) : Rs :=
  o.len a0 fun x1 =>
  o.len a1 fun x2 =>
  o.neq x1 x2 fun x3 =>
  (o.cond x3
  (o.len a0 fun x4 =>
  o.len a1 fun x5 =>
  o.lss x4 x5 fun x6 =>
  o.rest x6 fun r7 =>
  some (r7, H))
  (o.len a0 fun x8 =>
  (o.loop4 (f50_l2 o K C) K a0 a1 x8 (.int .i64 0) H)))
/-- (parquet/rat.number).minus -/
def f51_j4 (o : Ops) (K : Nat) (C : CallC) (k8 : SV → SV → SV → SV → Heap → Rs) (q4_1 q4_5 q4_6 q4_7 q4_8 : SV) (H4_0 : Heap) : Rs :=
  o.len q4_5 fun x31 =>
  o.sub x31 q4_7 fun x32 =>
  o.idx 1 q4_5 x32 fun x33 =>
  o.load 1 false x33 H4_0 fun x34 =>
  o.sub x34 q4_8 fun x35 =>
  o.idx 1 q4_5 x32 fun x36 =>
  o.store 1 x36 x35 H4_0 fun H38 =>
  o.add q4_7 (.int .i64 1) fun x39 =>
  k8 q4_1 q4_5 q4_6 x39 H38
def f51_j3 (o : Ops) (K : Nat) (C : CallC) (k8 : SV → SV → SV → SV → Heap → Rs) (q3_1 q3_5 q3_7 q3_8 : SV) (H3_0 : Heap) : Rs :=
  o.len q3_5 fun x18 =>
  o.sub x18 q3_7 fun x19 =>
  o.idx 1 q3_5 x19 fun x20 =>
  o.load 1 false x20 H3_0 fun x21 =>
  o.lss x21 q3_8 fun x22 =>
  (o.cond x22
  (o.len q3_5 fun x23 =>
  o.sub x23 q3_7 fun x24 =>
  o.idx 1 q3_5 x24 fun x25 =>
  o.load 1 false x25 H3_0 fun x26 =>
  o.add x26 (.int .u64 1000000000) fun x27 =>
  o.idx 1 q3_5 x24 fun x28 =>
  o.store 1 x28 x27 H3_0 fun H30 =>
  (f51_j4 o K C k8 q3_1 q3_5 (.int .u64 1) q3_7 q3_8 H30))
  ((f51_j4 o K C k8 q3_1 q3_5 (.int .u64 0) q3_7 q3_8 H3_0)))
def f51_l1 (o : Ops) (K : Nat) (C : CallC) : SV → SV → SV → SV → Heap → (SV → SV → SV → SV → Heap → Rs) → Rs := fun y3 y4 y5 y6 H7 k8 =>
  o.len y4 fun x9 =>
  o.leq y6 x9 fun x10 =>
  (o.cond x10
  (o.len y3 fun x11 =>
  o.leq y6 x11 fun x12 =>
  (o.cond x12
  (o.len y3 fun x13 =>
  o.sub x13 y6 fun x14 =>
  o.idx 1 y3 x14 fun x15 =>
  o.load 1 false x15 H7 fun x16 =>
  o.add y5 x16 fun x17 =>
  (f51_j3 o K C k8 y3 y4 y6 x17 H7))
  ((f51_j3 o K C k8 y3 y4 y6 y5 H7))))
  (o.call (C 67 [y4] H7) fun x40 H41 =>
  o.rest x40 fun r42 =>
  some (r42, H41)))
def f51 (o : Ops) (K : Nat) (C : CallC) (a0 a1 : SV) (H : Heap) : Rs :=
  o.append 1 8 (.slice nilSl) a0 H fun x1 H2 =>
  (o.loop4 (f51_l1 o K C) K a1 x1 (.int .u64 0) (.int .i64 1) H2)
/-- math/bits.Len32 -/
def f52_j2 (o : Ops) (K : Nat) (C : CallC) (q2_0 q2_2 : SV) (H2_0 : Heap) : Rs :=
  o.conv .u8 q2_0 fun x6 =>
  o.stridx (.str [0, 1, 2, 2, 3, 3, 3, 3, 4, 4, 4, 4, 4, 4, 4, 4, 5, 5, 5, 5, 5, 5, 5, 5, 5, 5, 5, 5, 5, 5, 5, 5, 6, 6, 6, 6, 6, 6, 6, 6, 6, 6, 6, 6, 6, 6, 6, 6, 6, 6, 6, 6, 6, 6, 6, 6, 6, 6, 6, 6, 6, 6, 6, 6, 7, 7, 7, 7, 7, 7, 7, 7, 7, 7, 7, 7, 7, 7, 7, 7, 7, 7, 7, 7, 7, 7, 7, 7, 7, 7, 7, 7, 7, 7, 7, 7, 7, 7, 7, 7, 7, 7, 7, 7, 7, 7, 7, 7, 7, 7, 7, 7, 7, 7, 7, 7, 7, 7, 7, 7, 7, 7, 7, 7, 7, 7, 7, 7, 8, 8, 8, 8, 8, 8, 8, 8, 8, 8, 8, 8, 8, 8, 8, 8, 8, 8, 8, 8, 8, 8, 8, 8, 8, 8, 8, 8, 8, 8, 8, 8, 8, 8, 8, 8, 8, 8, 8, 8, 8, 8, 8, 8, 8, 8, 8, 8, 8, 8, 8, 8, 8, 8, 8, 8, 8, 8, 8, 8, 8, 8, 8, 8, 8, 8, 8, 8, 8, 8, 8, 8, 8, 8, 8, 8, 8, 8, 8, 8, 8, 8, 8, 8, 8, 8, 8, 8, 8, 8, 8, 8, 8, 8, 8, 8, 8, 8, 8, 8, 8, 8, 8, 8, 8, 8, 8, 8, 8, 8, 8, 8, 8, 8, 8, 8, 8, 8, 8, 8, 8, 8, 8, 8, 8, 8, 8, 8]) x6 fun x7 =>
  o.conv .i64 x7 fun x8 =>
  o.add q2_2 x8 fun x9 =>
  o.rest x9 fun r10 =>
  some (r10, H2_0)
def f52_j1 (o : Ops) (K : Nat) (C : CallC) (q1_0 q1_2 : SV) (H1_0 : Heap) : Rs :=
  o.geq q1_0 (.int .u32 256) fun x3 =>
  (o.cond x3
  (o.shr q1_0 (.int .u64 8) fun x4 =>
  o.add q1_2 (.int .i64 8) fun x5 =>
  (f52_j2 o K C x4 x5 H1_0))
  ((f52_j2 o K C q1_0 q1_2 H1_0)))
def f52 (o : Ops) (K : Nat) (C : CallC) (a0 : SV) (H : Heap) : Rs :=
  o.geq a0 (.int .u32 65536) fun x1 =>
  (o.cond x1
  (o.shr a0 (.int .u64 16) fun x2 =>
  (f52_j1 o K C x2 (.int .i64 16) H))
  ((f52_j1 o K C a0 (.int .i64 0) H)))
/-- parquet/nat.less -/
def f53_j3 (o : Ops) (K : Nat) (C : CallC) (k8 : SV → SV → SV → SV → SV → Heap → Rs) (q3_0 q3_1 q3_4 q3_5 q3_6 q3_8 q3_9 : SV) (H3_0 : Heap) : Rs :=
  o.idx 1 q3_0 q3_5 fun x14 =>
  o.load 1 false x14 H3_0 fun x15 =>
  o.call (C 68 [x15, q3_6, q3_4] H3_0) fun x16 H17 =>
  o.ext 0 x16 fun x18 =>
  o.ext 1 x16 fun x19 =>
  o.idx 1 q3_0 q3_5 fun x20 =>
  o.store 1 x20 x18 H17 fun H22 =>
  o.add q3_9 (.int .i64 1) fun x23 =>
  k8 q3_0 q3_1 x19 q3_8 x23 H22
def f53_j5 (o : Ops) (K : Nat) (C : CallC) (H5_0 : Heap) : Rs :=
  some (.tuple [], H5_0)
def f53_l1 (o : Ops) (K : Nat) (C : CallC) : SV → SV → SV → SV → SV → Heap → (SV → SV → SV → SV → SV → Heap → Rs) → Rs := fun y2 y3 y4 y5 y6 H7 k8 =>
  o.lss y6 y5 fun x9 =>
  (o.cond x9
  (o.len y3 fun x10 =>
  o.lss y6 x10 fun x11 =>
  (o.cond x11
  (o.idx 1 y3 y6 fun x12 =>
  o.load 1 false x12 H7 fun x13 =>
  (f53_j3 o K C k8 y2 y3 y4 y6 x13 y5 y6 H7))
  (o.eql y4 (.int .u32 0) fun x24 =>
  (o.cond x24
  ((f53_j5 o K C H7))
  ((f53_j3 o K C k8 y2 y3 y4 y6 (.int .u32 0) y5 y6 H7))))))
  ((f53_j5 o K C H7)))
def f53 (o : Ops) (K : Nat) (C : CallC) (a0 a1 : SV) (H : Heap) : Rs :=
  o.len a0 fun x1 =>
  (o.loop5 (f53_l1 o K C) K a0 a1 (.int .u32 0) x1 (.int .i64 0) H)
/-- parquet/nat.long -/
def f54_j7 (o : Ops) (K : Nat) (C : CallC) (k42 : SV → SV → SV → SV → SV → SV → SV → SV → Heap → Rs) (q7_4 q7_5 q7_6 q7_7 q7_8 q7_9 q7_11 q7_12 : SV) (H7_0 : Heap) : Rs :=
  o.sub q7_12 (.int .i64 1) fun x100 =>
  k42 q7_4 q7_5 q7_6 q7_7 q7_8 q7_9 q7_11 x100 H7_0
def f54_j11 (o : Ops) (K : Nat) (C : CallC) (k120 : SV → SV → SV → SV → SV → SV → SV → SV → SV → SV → SV → SV → Heap → Rs) (q11_4 q11_5 q11_6 q11_7 q11_8 q11_9 q11_11 q11_12 q11_16 q11_17 q11_18 q11_156 q11_157 : SV) (H11_0 : Heap) : Rs :=
  o.conv .u32 q11_17 fun x131 =>
  o.idx 1 q11_16 q11_18 fun x132 =>
  o.store 1 x132 x131 H11_0 fun H134 =>
  o.shr q11_17 (.int .u64 32) fun x135 =>
  o.add q11_157 (.int .i64 1) fun x136 =>
  k120 q11_4 q11_5 q11_6 q11_7 q11_8 q11_9 q11_11 q11_12 q11_16 x135 q11_156 x136 H134
def f54_l9 (o : Ops) (K : Nat) (C : CallC) (k42 : SV → SV → SV → SV → SV → SV → SV → SV → Heap → Rs) : SV → SV → SV → SV → SV → SV → SV → SV → SV → SV → SV → SV → Heap → (SV → SV → SV → SV → SV → SV → SV → SV → SV → SV → SV → SV → Heap → Rs) → Rs := fun y107 y108 y109 y110 y111 y112 y113 y114 y115 y116 y117 y118 H119 k120 =>
  o.lss y118 y117 fun x121 =>
  (o.cond x121
  (o.idx 1 y115 y118 fun x122 =>
  o.load 1 false x122 H119 fun x123 =>
  o.conv .u64 x123 fun x124 =>
  o.add y116 x124 fun x125 =>
  o.lss y118 y109 fun x126 =>
  (o.cond x126
  (o.idx 1 y111 y118 fun x127 =>
  o.load 1 false x127 H119 fun x128 =>
  o.conv .u64 x128 fun x129 =>
  o.add x125 x129 fun x130 =>
  (f54_j11 o K C k120 y107 y108 y109 y110 y111 y112 y113 y114 y115 x130 y118 y117 y118 H119))
  ((f54_j11 o K C k120 y107 y108 y109 y110 y111 y112 y113 y114 y115 x125 y118 y117 y118 H119))))
  ((f54_j7 o K C k42 y107 y108 y109 y110 y111 y112 y113 y114 H119)))
def f54_j6 (o : Ops) (K : Nat) (C : CallC) (k42 : SV → SV → SV → SV → SV → SV → SV → SV → Heap → Rs) (q6_4 q6_5 q6_6 q6_7 q6_8 q6_9 q6_11 q6_12 q6_14 : SV) (H6_0 : Heap) : Rs :=
  o.add q6_12 q6_6 fun x87 =>
  o.add x87 (.int .i64 1) fun x88 =>
  o.add q6_12 q6_6 fun x89 =>
  o.add x89 (.int .i64 1) fun x90 =>
  o.slice111 1 q6_9 q6_12 x88 x90 H6_0 fun x91 =>
  o.conv .u32 q6_14 fun x92 =>
  o.call (C 71 [x91, q6_8, x92] H6_0) fun x93 H94 =>
  o.u_not x93 fun x95 =>
  (o.cond x95
  (o.conv .u32 q6_14 fun x96 =>
  o.idx 1 q6_11 q6_12 fun x97 =>
  o.store 1 x97 x96 H94 fun H99 =>
  (f54_j7 o K C k42 q6_4 q6_5 q6_6 q6_7 q6_8 q6_9 q6_11 q6_12 H99))
  (o.conv .u32 q6_14 fun x101 =>
  o.sub x101 (.int .u32 1) fun x102 =>
  o.idx 1 q6_11 q6_12 fun x103 =>
  o.store 1 x103 x102 H94 fun H105 =>
  o.len x91 fun x106 =>
  (o.loop12 (f54_l9 o K C k42) K q6_4 q6_5 q6_6 q6_7 q6_8 q6_9 q6_11 q6_12 x91 (.int .u64 0) x106 (.int .i64 0) H105)))
def f54_j4 (o : Ops) (K : Nat) (C : CallC) (k42 : SV → SV → SV → SV → SV → SV → SV → SV → Heap → Rs) (k76 : SV → SV → SV → SV → SV → SV → SV → SV → SV → SV → Heap → Rs) (q4_4 q4_5 q4_6 q4_7 q4_8 q4_9 q4_11 q4_12 q4_14 q4_15 q4_113 : SV) (H4_0 : Heap) : Rs :=
  (o.cond q4_113
  (o.sub q4_14 (.int .u64 1) fun x79 =>
  o.sub q4_6 (.int .i64 1) fun x80 =>
  o.idx 1 q4_8 x80 fun x81 =>
  o.load 1 false x81 H4_0 fun x82 =>
  o.conv .u64 x82 fun x83 =>
  o.add q4_15 x83 fun x84 =>
  o.shr x84 (.int .u64 32) fun x85 =>
  o.neq x85 (.int .u64 0) fun x86 =>
  (o.cond x86
  ((f54_j6 o K C k42 q4_4 q4_5 q4_6 q4_7 q4_8 q4_9 q4_11 q4_12 x79 H4_0))
  (k76 q4_4 q4_5 q4_6 q4_7 q4_8 q4_9 q4_11 q4_12 x79 x84 H4_0)))
  ((f54_j6 o K C k42 q4_4 q4_5 q4_6 q4_7 q4_8 q4_9 q4_11 q4_12 q4_14 H4_0)))
def f54_l3 (o : Ops) (K : Nat) (C : CallC) (k42 : SV → SV → SV → SV → SV → SV → SV → SV → Heap → Rs) : SV → SV → SV → SV → SV → SV → SV → SV → SV → SV → Heap → (SV → SV → SV → SV → SV → SV → SV → SV → SV → SV → Heap → Rs) → Rs := fun y65 y66 y67 y68 y69 y70 y71 y72 y73 y74 H75 k76 =>
  o.shr y73 (.int .u64 32) fun x77 =>
  o.neq x77 (.int .u64 0) fun x78 =>
  (o.guard x78
  ((f54_j4 o K C k42 k76 y65 y66 y67 y68 y69 y70 y71 y72 y73 y74 (.bool true) H75))
  (o.sub y67 (.int .i64 2) fun x137 =>
  o.idx 1 y69 x137 fun x138 =>
  o.load 1 false x138 H75 fun x139 =>
  o.conv .u64 x139 fun x140 =>
  o.mul y73 x140 fun x141 =>
  o.shl y74 (.int .u64 32) fun x142 =>
  o.add y72 y67 fun x143 =>
  o.sub x143 (.int .i64 2) fun x144 =>
  o.idx 1 y70 x144 fun x145 =>
  o.load 1 false x145 H75 fun x146 =>
  o.conv .u64 x146 fun x147 =>
  o.or x142 x147 fun x148 =>
  o.gtr x141 x148 fun x149 =>
  (f54_j4 o K C k42 k76 y65 y66 y67 y68 y69 y70 y71 y72 y73 y74 x149 H75))
  (none))
def f54_l1 (o : Ops) (K : Nat) (C : CallC) : SV → SV → SV → SV → SV → SV → SV → SV → Heap → (SV → SV → SV → SV → SV → SV → SV → SV → Heap → Rs) → Rs := fun y33 y34 y35 y36 y37 y38 y39 y40 H41 k42 =>
  o.geq y40 (.int .i64 0) fun x43 =>
  (o.cond x43
  (o.add y40 y35 fun x44 =>
  o.idx 1 y38 x44 fun x45 =>
  o.load 1 false x45 H41 fun x46 =>
  o.conv .u64 x46 fun x47 =>
  o.shl x47 (.int .u64 32) fun x48 =>
  o.add y40 y35 fun x49 =>
  o.sub x49 (.int .i64 1) fun x50 =>
  o.idx 1 y38 x50 fun x51 =>
  o.load 1 false x51 H41 fun x52 =>
  o.conv .u64 x52 fun x53 =>
  o.or x48 x53 fun x54 =>
  o.sub y35 (.int .i64 1) fun x55 =>
  o.idx 1 y37 x55 fun x56 =>
  o.load 1 false x56 H41 fun x57 =>
  o.conv .u64 x57 fun x58 =>
  o.quo x54 x58 fun x59 =>
  o.sub y35 (.int .i64 1) fun x60 =>
  o.idx 1 y37 x60 fun x61 =>
  o.load 1 false x61 H41 fun x62 =>
  o.conv .u64 x62 fun x63 =>
  o.rem x54 x63 fun x64 =>
  (o.loop10 (f54_l3 o K C k42) K y33 y34 y35 y36 y37 y38 y39 y40 x59 x64 H41))
  (o.call (C 37 [y39] H41) fun x150 H151 =>
  o.call (C 72 [y38, y36] H151) fun x152 H153 =>
  o.bstore 0 1 y33 x150 fun c154 =>
  o.bstore 0 1 y34 x152 fun c155 =>
  o.resc 1 true (.box c154) fun r156 =>
  o.resc 1 true (.box c155) fun r157 =>
  some (.tuple [r156, r157], H153)))
def f54 (o : Ops) (K : Nat) (C : CallC) (a0 a1 : SV) (H : Heap) : Rs :=
  o.bbox a0 fun c1 =>
  o.bbox a1 fun c2 =>
  o.lfld 0 (.box c2) fun x3 =>
  o.lloadp 1 false (.box c2) x3 fun x4 =>
  o.len x4 fun x5 =>
  o.lfld 0 (.box c2) fun x6 =>
  o.lloadp 1 false (.box c2) x6 fun x7 =>
  o.lfld 0 (.box c2) fun x8 =>
  o.lloadp 1 false (.box c2) x8 fun x9 =>
  o.len x9 fun x10 =>
  o.sub x10 (.int .i64 1) fun x11 =>
  o.idx 1 x7 x11 fun x12 =>
  o.load 1 false x12 H fun x13 =>
  o.call (C 69 [x13] H) fun x14 H15 =>
  o.lfld 0 (.box c2) fun x16 =>
  o.lloadp 1 false (.box c2) x16 fun x17 =>
  o.call (C 70 [x17, x14, x5] H15) fun x18 H19 =>
  o.lfld 0 (.box c1) fun x20 =>
  o.lloadp 1 false (.box c1) x20 fun x21 =>
  o.lfld 0 (.box c1) fun x22 =>
  o.lloadp 1 false (.box c1) x22 fun x23 =>
  o.len x23 fun x24 =>
  o.add x24 (.int .i64 1) fun x25 =>
  o.call (C 70 [x21, x14, x25] H19) fun x26 H27 =>
  o.len x26 fun x28 =>
  o.sub x28 x5 fun x29 =>
  o.make 1 4 [.int .u32 0] x29 x29 H27 fun x30 H31 =>
  o.sub x29 (.int .i64 1) fun x32 =>
  (o.loop8 (f54_l1 o K C) K (.box [.slice nilSl]) (.box [.slice nilSl]) x5 x14 x18 x26 x30 x32 H31)
/-- parquet/rat.cross -/
def f55_j1 (o : Ops) (K : Nat) (C : CallC) (q1_2 q1_6 q1_9 q1_11 q1_13 q1_51 : SV) (H1_0 : Heap) : Rs :=
  (o.cond q1_51
  (o.build [.bool false, .slice nilSl, .slice nilSl] [] [] fun x35 =>
  o.bstore 0 3 q1_6 x35 fun c36 =>
  o.resc 3 true (.box c36) fun r37 =>
  some (.tuple [r37, (.int .i64 3)], H1_0))
  (o.lload 0 2 true q1_9 fun x39 =>
  o.lload 0 2 true q1_11 fun x40 =>
  o.callv C [q1_2, x39, x40] H1_0 fun x41 H42 =>
  o.ext 0 x41 fun x43 =>
  o.ext 1 x41 fun x44 =>
  o.bstore 0 2 (.box [.bool false, .slice nilSl]) x43 fun c45 =>
  o.neq x44 (.int .i64 0) fun x46 =>
  (o.cond x46
  (o.build [.bool false, .slice nilSl, .slice nilSl] [] [] fun x47 =>
  o.bstore 0 3 q1_6 x47 fun c48 =>
  o.resc 3 true (.box c48) fun r49 =>
  some (.tuple [r49, (.int .i64 3)], H42))
  (o.lload 0 2 true (.box c45) fun x51 =>
  o.lload 0 1 true q1_13 fun x52 =>
  o.call (C 23 [x51, x52] H42) fun x53 H54 =>
  o.bstore 0 3 q1_6 x53 fun c55 =>
  o.resc 3 true (.box c55) fun r56 =>
  some (.tuple [r56, (.int .i64 0)], H54)))))
def f55 (o : Ops) (K : Nat) (C : CallC) (a0 a1 a2 : SV) (H : Heap) : Rs :=
  o.bbox a0 fun c1 =>
  o.bbox a1 fun c2 =>
  o.lfld 0 (.box c1) fun x3 =>
  o.lloadp 2 true (.box c1) x3 fun x4 =>
  o.lload 0 3 true (.box c2) fun x5 =>
  o.call (C 11 [x5] H) fun x6 H7 =>
  o.callv C [(.fn 73 [] []), x4, x6] H7 fun x8 H9 =>
  o.ext 0 x8 fun x10 =>
  o.ext 1 x8 fun x11 =>
  o.bstore 0 2 (.box [.bool false, .slice nilSl]) x10 fun c12 =>
  o.lfld 0 (.box c2) fun x13 =>
  o.lloadp 2 true (.box c2) x13 fun x14 =>
  o.lload 0 3 true (.box c1) fun x15 =>
  o.call (C 11 [x15] H9) fun x16 H17 =>
  o.callv C [(.fn 73 [] []), x14, x16] H17 fun x18 H19 =>
  o.ext 0 x18 fun x20 =>
  o.ext 1 x18 fun x21 =>
  o.bstore 0 2 (.box [.bool false, .slice nilSl]) x20 fun c22 =>
  o.lload 0 3 true (.box c1) fun x23 =>
  o.call (C 11 [x23] H19) fun x24 H25 =>
  o.lload 0 3 true (.box c2) fun x26 =>
  o.call (C 11 [x26] H25) fun x27 H28 =>
  o.call (C 75 [x24, x27] H28) fun x29 H30 =>
  o.ext 0 x29 fun x31 =>
  o.ext 1 x29 fun x32 =>
  o.bstore 0 1 (.box [.slice nilSl]) x31 fun c33 =>
  o.neq x11 (.int .i64 0) fun x34 =>
  (o.guard x34
  ((f55_j1 o K C a2 (.box [.bool false, .slice nilSl, .slice nilSl]) (.box c12) (.box c22) (.box c33) (.bool true) H30))
  (o.neq x21 (.int .i64 0) fun x58 =>
  (o.guard x58
  ((f55_j1 o K C a2 (.box [.bool false, .slice nilSl, .slice nilSl]) (.box c12) (.box c22) (.box c33) (.bool true) H30))
  (o.neq x32 (.int .i64 0) fun x59 =>
  (f55_j1 o K C a2 (.box [.bool false, .slice nilSl, .slice nilSl]) (.box c12) (.box c22) (.box c33) x59 H30))
  (none)))
  (none))
/-- parquet/rat.times -/
def f56_j1 (o : Ops) (K : Nat) (C : CallC) (q1_6 q1_8 q1_10 q1_31 : SV) (H1_0 : Heap) : Rs :=
  (o.cond q1_31
  (o.build [.bool false, .slice nilSl, .slice nilSl] [] [] fun x22 =>
  o.bstore 0 3 q1_6 x22 fun c23 =>
  o.resc 3 true (.box c23) fun r24 =>
  some (.tuple [r24, (.int .i64 3)], H1_0))
  (o.lload 0 2 true q1_8 fun x26 =>
  o.lload 0 1 true q1_10 fun x27 =>
  o.call (C 23 [x26, x27] H1_0) fun x28 H29 =>
  o.bstore 0 3 q1_6 x28 fun c30 =>
  o.resc 3 true (.box c30) fun r31 =>
  some (.tuple [r31, (.int .i64 0)], H29)))
def f56 (o : Ops) (K : Nat) (C : CallC) (a0 a1 a2 : SV) (H : Heap) : Rs :=
  o.bbox a0 fun c1 =>
  o.bbox a1 fun c2 =>
  o.bbox a2 fun c3 =>
  o.lfld 0 (.box c1) fun x4 =>
  o.lloadp 2 true (.box c1) x4 fun x5 =>
  o.lload 0 2 true (.box c2) fun x6 =>
  o.call (C 74 [x5, x6] H) fun x7 H8 =>
  o.ext 0 x7 fun x9 =>
  o.ext 1 x7 fun x10 =>
  o.bstore 0 2 (.box [.bool false, .slice nilSl]) x9 fun c11 =>
  o.lload 0 3 true (.box c1) fun x12 =>
  o.call (C 11 [x12] H8) fun x13 H14 =>
  o.lload 0 1 true (.box c3) fun x15 =>
  o.call (C 75 [x13, x15] H14) fun x16 H17 =>
  o.ext 0 x16 fun x18 =>
  o.ext 1 x16 fun x19 =>
  o.bstore 0 1 (.box [.slice nilSl]) x18 fun c20 =>
  o.neq x10 (.int .i64 0) fun x21 =>
  (o.guard x21
  ((f56_j1 o K C (.box [.bool false, .slice nilSl, .slice nilSl]) (.box c11) (.box c20) (.bool true) H17))
  (o.neq x19 (.int .i64 0) fun x33 =>
  (f56_j1 o K C (.box [.bool false, .slice nilSl, .slice nilSl]) (.box c11) (.box c20) x33 H17))
  (none))
/-- parquet/zint.Cmp -/
def f57_j1 (o : Ops) (K : Nat) (C : CallC) (q1_2 q1_3 q1_5 : SV) (H1_0 : Heap) : Rs :=
  (o.cond q1_5
  (o.lfld 1 q1_3 fun x7 =>
  o.lloadp 1 true q1_3 x7 fun x8 =>
  o.lfld 1 q1_2 fun x9 =>
  o.lloadp 1 true q1_2 x9 fun x10 =>
  o.call (C 20 [x8, x10] H1_0) fun x11 H12 =>
  o.rest x11 fun r13 =>
  some (r13, H12))
  (o.lfld 0 q1_2 fun x14 =>
  o.lloadp 1 false q1_2 x14 fun x15 =>
  (o.cond x15
  (some ((.int .i64 (-1)), H1_0))
  (o.lfld 0 q1_3 fun x17 =>
  o.lloadp 1 false q1_3 x17 fun x18 =>
  (o.cond x18
  (some ((.int .i64 1), H1_0))
  (o.lfld 1 q1_2 fun x20 =>
  o.lloadp 1 true q1_2 x20 fun x21 =>
  o.lfld 1 q1_3 fun x22 =>
  o.lloadp 1 true q1_3 x22 fun x23 =>
  o.call (C 20 [x21, x23] H1_0) fun x24 H25 =>
  o.rest x24 fun r26 =>
  some (r26, H25)))))))
def f57 (o : Ops) (K : Nat) (C : CallC) (a0 a1 : SV) (H : Heap) : Rs :=
  o.bbox a0 fun c1 =>
  o.bbox a1 fun c2 =>
  o.lfld 0 (.box c1) fun x3 =>
  o.lloadp 1 false (.box c1) x3 fun x4 =>
  (o.guard x4
  (o.lfld 0 (.box c2) fun x5 =>
  o.lloadp 1 false (.box c2) x5 fun x6 =>
  (f57_j1 o K C (.box c1) (.box c2) x6 H))
  ((f57_j1 o K C (.box c1) (.box c2) (.bool false) H))
  (none))
/-- parquet/rat.over -/
def f58 (o : Ops) (K : Nat) (C : CallC) (a0 a1 : SV) (H : Heap) : Rs :=
  o.bbox a0 fun c1 =>
  o.bbox a1 fun c2 =>
  o.lload 0 1 true (.box c2) fun x3 =>
  o.call (C 22 [] H) fun x4 H5 =>
  o.call (C 32 [x3, x4] H5) fun x6 H7 =>
  o.ext 0 x6 fun x8 =>
  o.ext 1 x6 fun x9 =>
  o.bstore 0 1 (.box [.slice nilSl]) x8 fun c10 =>
  o.lload 0 1 true (.box c1) fun x11 =>
  o.call (C 24 [(.bool false), x11] H7) fun x12 H13 =>
  o.lload 0 1 true (.box c10) fun x14 =>
  o.build [.bool false, .slice nilSl, .slice nilSl] [(0, 2), (2, 1)] [x12, x14] fun x15 =>
  o.bstore 0 3 (.box [.bool false, .slice nilSl, .slice nilSl]) x15 fun c16 =>
  o.resc 3 true (.box c16) fun r17 =>
  some (r17, H13)
/-- internal/stringslite.Index -/
def f59_j16 (o : Ops) (K : Nat) (C : CallC) (k33 : SV → SV → SV → SV → SV → SV → SV → SV → Heap → Rs) (q16_0 q16_1 q16_5 q16_6 q16_7 q16_8 q16_9 q16_10 q16_132 : SV) (H16_0 : Heap) : Rs :=
  (o.cond q16_132
  (o.strcut10 q16_0 q16_8 fun x72 =>
  o.call (C 79 [x72, q16_1] H16_0) fun x73 H74 =>
  o.lss x73 (.int .i64 0) fun x75 =>
  (o.cond x75
  (some ((.int .i64 (-1)), H74))
  (o.add q16_8 x73 fun x77 =>
  o.rest x77 fun r78 =>
  some (r78, H74))))
  (k33 q16_0 q16_1 q16_5 q16_6 q16_7 q16_8 q16_9 q16_10 H16_0))
def f59_j14 (o : Ops) (K : Nat) (C : CallC) (k33 : SV → SV → SV → SV → SV → SV → SV → SV → Heap → Rs) (q14_0 q14_1 q14_5 q14_6 q14_7 q14_8 q14_9 q14_10 q14_107 : SV) (H14_0 : Heap) : Rs :=
  (o.cond q14_107
  (o.strcut10 q14_0 q14_8 fun x59 =>
  o.call (C 77 [x59, q14_1] H14_0) fun x60 H61 =>
  o.geq x60 (.int .i64 0) fun x62 =>
  (o.cond x62
  (o.add x60 q14_8 fun x63 =>
  o.rest x63 fun r64 =>
  some (r64, H61))
  (some ((.int .i64 (-1)), H61))))
  (o.max [] fun x66 =>
  o.gtr q14_5 x66 fun x67 =>
  (o.guard x67
  (o.shr q14_8 (.int .u64 4) fun x68 =>
  o.add (.int .i64 4) x68 fun x69 =>
  o.geq q14_10 x69 fun x70 =>
  (o.guard x70
  (o.lss q14_8 q14_9 fun x71 =>
  (f59_j16 o K C k33 q14_0 q14_1 q14_5 q14_6 q14_7 q14_8 q14_9 q14_10 x71 H14_0))
  ((f59_j16 o K C k33 q14_0 q14_1 q14_5 q14_6 q14_7 q14_8 q14_9 q14_10 (.bool false) H14_0))
  (none)))
  ((f59_j16 o K C k33 q14_0 q14_1 q14_5 q14_6 q14_7 q14_8 q14_9 q14_10 (.bool false) H14_0))
  (none))))
def f59_j12 (o : Ops) (K : Nat) (C : CallC) (k33 : SV → SV → SV → SV → SV → SV → SV → SV → Heap → Rs) (q12_0 q12_1 q12_5 q12_6 q12_7 q12_8 q12_9 q12_10 q12_93 : SV) (H12_0 : Heap) : Rs :=
  (o.cond q12_93
  (o.rest q12_8 fun r51 =>
  some (r51, H12_0))
  (o.add q12_8 (.int .i64 1) fun x52 =>
  o.add q12_10 (.int .i64 1) fun x53 =>
  o.max [] fun x54 =>
  o.leq q12_5 x54 fun x55 =>
  (o.guard x55
  (o.call (C 78 [x52] H12_0) fun x56 H57 =>
  o.gtr x53 x56 fun x58 =>
  (f59_j14 o K C k33 q12_0 q12_1 q12_5 q12_6 q12_7 x52 q12_9 x53 x58 H57))
  ((f59_j14 o K C k33 q12_0 q12_1 q12_5 q12_6 q12_7 x52 q12_9 x53 (.bool false) H12_0))
  (none))))
def f59_j11 (o : Ops) (K : Nat) (C : CallC) (k33 : SV → SV → SV → SV → SV → SV → SV → SV → Heap → Rs) (q11_0 q11_1 q11_5 q11_6 q11_7 q11_8 q11_9 q11_10 : SV) (H11_0 : Heap) : Rs :=
  o.add q11_8 (.int .i64 1) fun x45 =>
  o.stridx q11_0 x45 fun x46 =>
  o.eql x46 q11_7 fun x47 =>
  (o.guard x47
  (o.add q11_8 q11_5 fun x48 =>
  o.strcut11 q11_0 q11_8 x48 fun x49 =>
  o.eql x49 q11_1 fun x50 =>
  (f59_j12 o K C k33 q11_0 q11_1 q11_5 q11_6 q11_7 q11_8 q11_9 q11_10 x50 H11_0))
  ((f59_j12 o K C k33 q11_0 q11_1 q11_5 q11_6 q11_7 q11_8 q11_9 q11_10 (.bool false) H11_0))
  (none))
def f59_l8 (o : Ops) (K : Nat) (C : CallC) : SV → SV → SV → SV → SV → SV → SV → SV → Heap → (SV → SV → SV → SV → SV → SV → SV → SV → Heap → Rs) → Rs := fun y24 y25 y26 y27 y28 y29 y30 y31 H32 k33 =>
  o.lss y29 y30 fun x34 =>
  (o.cond x34
  (o.stridx y24 y29 fun x35 =>
  o.neq x35 y27 fun x36 =>
  (o.cond x36
  (o.add y29 (.int .i64 1) fun x37 =>
  o.strcut11 y24 x37 y30 fun x38 =>
  o.call (C 76 [x38, y27] H32) fun x39 H40 =>
  o.lss x39 (.int .i64 0) fun x41 =>
  (o.cond x41
  (some ((.int .i64 (-1)), H40))
  (o.add x39 (.int .i64 1) fun x43 =>
  o.add y29 x43 fun x44 =>
  (f59_j11 o K C k33 y24 y25 y26 y27 y28 x44 y30 y31 H40))))
  ((f59_j11 o K C k33 y24 y25 y26 y27 y28 y29 y30 y31 H32))))
  (some ((.int .i64 (-1)), H32)))
def f59_j2 (o : Ops) (K : Nat) (C : CallC) (q2_0 q2_1 q2_5 q2_36 : SV) (H2_0 : Heap) : Rs :=
  (o.cond q2_36
  (o.call (C 77 [q2_0, q2_1] H2_0) fun x16 H17 =>
  o.rest x16 fun r18 =>
  some (r18, H17))
  (o.stridx q2_1 (.int .i64 0) fun x19 =>
  o.stridx q2_1 (.int .i64 1) fun x20 =>
  o.slen q2_0 fun x21 =>
  o.sub x21 q2_5 fun x22 =>
  o.add x22 (.int .i64 1) fun x23 =>
  (o.loop8 (f59_l8 o K C) K q2_0 q2_1 q2_5 x19 x20 (.int .i64 0) x23 (.int .i64 0) H2_0)))
def f59_j1 (o : Ops) (K : Nat) (C : CallC) (q1_0 q1_1 q1_5 q1_16 : SV) (H1_0 : Heap) : Rs :=
  (o.cond q1_16
  (some ((.int .i64 0), H1_0))
  (o.eql q1_5 (.int .i64 1) fun x4 =>
  (o.cond x4
  (o.stridx q1_1 (.int .i64 0) fun x5 =>
  o.call (C 76 [q1_0, x5] H1_0) fun x6 H7 =>
  o.rest x6 fun r8 =>
  some (r8, H7))
  (o.slen q1_0 fun x9 =>
  o.geq q1_5 x9 fun x10 =>
  (o.cond x10
  (some ((.int .i64 (-1)), H1_0))
  (o.max [] fun x12 =>
  o.leq q1_5 x12 fun x13 =>
  (o.guard x13
  (o.slen q1_0 fun x14 =>
  o.leq x14 (.int .i64 64) fun x15 =>
  (f59_j2 o K C q1_0 q1_1 q1_5 x15 H1_0))
  ((f59_j2 o K C q1_0 q1_1 q1_5 (.bool false) H1_0))
  (none))))))))
def f59 (o : Ops) (K : Nat) (C : CallC) (a0 a1 : SV) (H : Heap) : Rs :=
  o.slen a1 fun x1 =>
  o.eql x1 (.int .i64 0) fun x2 =>
  (o.guard x2
  ((f59_j1 o K C a0 a1 x1 (.bool true) H))
  (o.eql a1 a0 fun x80 =>
  (f59_j1 o K C a0 a1 x1 x80 H))
  (none))
/-- strings.trimLeftByte -/
def f60_j2 (o : Ops) (K : Nat) (C : CallC) (k4 : SV → SV → Heap → Rs) (q2_0 q2_1 q2_13 : SV) (H2_0 : Heap) : Rs :=
  (o.cond q2_13
  (o.strcut10 q2_0 (.int .i64 1) fun x9 =>
  k4 x9 q2_1 H2_0)
  (o.rest q2_0 fun r10 =>
  some (r10, H2_0)))
def f60_l1 (o : Ops) (K : Nat) (C : CallC) : SV → SV → Heap → (SV → SV → Heap → Rs) → Rs := fun y1 y2 H3 k4 =>
  o.slen y1 fun x5 =>
  o.gtr x5 (.int .i64 0) fun x6 =>
  (o.guard x6
  (o.stridx y1 (.int .i64 0) fun x7 =>
  o.eql x7 y2 fun x8 =>
  (f60_j2 o K C k4 y1 y2 x8 H3))
  ((f60_j2 o K C k4 y1 y2 (.bool false) H3))
  (none))
def f60 (o : Ops) (K : Nat) (C : CallC) (a0 a1 : SV) (H : Heap) : Rs :=
  (o.loop2 (f60_l1 o K C) K a0 a1 H)
/-- strings.trimRightByte -/
def f61_j2 (o : Ops) (K : Nat) (C : CallC) (k4 : SV → SV → Heap → Rs) (q2_0 q2_1 q2_16 : SV) (H2_0 : Heap) : Rs :=
  (o.cond q2_16
  (o.slen q2_0 fun x11 =>
  o.sub x11 (.int .i64 1) fun x12 =>
  o.strcut01 q2_0 x12 fun x13 =>
  k4 x13 q2_1 H2_0)
  (o.rest q2_0 fun r14 =>
  some (r14, H2_0)))
def f61_l1 (o : Ops) (K : Nat) (C : CallC) : SV → SV → Heap → (SV → SV → Heap → Rs) → Rs := fun y1 y2 H3 k4 =>
  o.slen y1 fun x5 =>
  o.gtr x5 (.int .i64 0) fun x6 =>
  (o.guard x6
  (o.slen y1 fun x7 =>
  o.sub x7 (.int .i64 1) fun x8 =>
  o.stridx y1 x8 fun x9 =>
  o.eql x9 y2 fun x10 =>
  (f61_j2 o K C k4 y1 y2 x10 H3))
  ((f61_j2 o K C k4 y1 y2 (.bool false) H3))
  (none))
def f61 (o : Ops) (K : Nat) (C : CallC) (a0 a1 : SV) (H : Heap) : Rs :=
  (o.loop2 (f61_l1 o K C) K a0 a1 H)
/-- strings.makeASCIISet -/
def f62_l1 (o : Ops) (K : Nat) (C : CallC) : SV → SV → SV → Heap → (SV → SV → SV → Heap → Rs) → Rs := fun y1 y2 y3 H4 k5 =>
  o.slen y1 fun x6 =>
  o.lss y3 x6 fun x7 =>
  (o.cond x7
  (o.stridx y1 y3 fun x8 =>
  o.geq x8 (.int .u8 128) fun x9 =>
  (o.cond x9
  (o.lload 0 256 true y2 fun x10 =>
  o.bstore 0 256 y2 x10 fun c11 =>
  o.resc 256 true (.box c11) fun r12 =>
  some (.tuple [r12, (.bool false)], H4))
  (o.lidx 256 1 y2 x8 fun x14 =>
  o.bstorep 1 y2 x14 (.bool true) fun c15 =>
  o.add y3 (.int .i64 1) fun x16 =>
  k5 y1 (.box c15) x16 H4)))
  (o.lload 0 256 true y2 fun x17 =>
  o.bstore 0 256 y2 x17 fun c18 =>
  o.resc 256 true (.box c18) fun r19 =>
  some (.tuple [r19, (.bool true)], H4)))
def f62 (o : Ops) (K : Nat) (C : CallC) (a0 : SV) (H : Heap) : Rs :=
  (o.loop3 (f62_l1 o K C) K a0 (.box [.bool false, .bool false, .bool false, .bool false, .bool false, .bool false, .bool false, .bool false, .bool false, .bool false, .bool false, .bool false, .bool false, .bool false, .bool false, .bool false, .bool false, .bool false, .bool false, .bool false, .bool false, .bool false, .bool false, .bool false, .bool false, .bool false, .bool false, .bool false, .bool false, .bool false, .bool false, .bool false, .bool false, .bool false, .bool false, .bool false, .bool false, .bool false, .bool false, .bool false, .bool false, .bool false, .bool false, .bool false, .bool false, .bool false, .bool false, .bool false, .bool false, .bool false, .bool false, .bool false, .bool false, .bool false, .bool false, .bool false, .bool false, .bool false, .bool false, .bool false, .bool false, .bool false, .bool false, .bool false, .bool false, .bool false, .bool false, .bool false, .bool false, .bool false, .bool false, .bool false, .bool false, .bool false, .bool false, .bool false, .bool false, .bool false, .bool false, .bool false, .bool false, .bool false, .bool false, .bool false, .bool false, .bool false, .bool false, .bool false, .bool false, .bool false, .bool false, .bool false, .bool false, .bool false, .bool false, .bool false, .bool false, .bool false, .bool false, .bool false, .bool false, .bool false, .bool false, .bool false, .bool false, .bool false, .bool false, .bool false, .bool false, .bool false, .bool false, .bool false, .bool false, .bool false, .bool false, .bool false, .bool false, .bool false, .bool false, .bool false, .bool false, .bool false, .bool false, .bool false, .bool false, .bool false, .bool false, .bool false, .bool false, .bool false, .bool false, .bool false, .bool false, .bool false, .bool false, .bool false, .bool false, .bool false, .bool false, .bool false, .bool false, .bool false, .bool false, .bool false, .bool false, .bool false, .bool false, .bool false, .bool false, .bool false, .bool false, .bool false, .bool false, .bool false, .bool false, .bool false, .bool false, .bool false, .bool false, .bool false, .bool false, .bool false, .bool false, .bool false, .bool false, .bool false, .bool false, .bool false, .bool false, .bool false, .bool false, .bool false, .bool false, .bool false, .bool false, .bool false, .bool false, .bool false, .bool false, .bool false, .bool false, .bool false, .bool false, .bool false, .bool false, .bool false, .bool false, .bool false, .bool false, .bool false, .bool false, .bool false, .bool false, .bool false, .bool false, .bool false, .bool false, .bool false, .bool false, .bool false, .bool false, .bool false, .bool false, .bool false, .bool false, .bool false, .bool false, .bool false, .bool false, .bool false, .bool false, .bool false, .bool false, .bool false, .bool false, .bool false, .bool false, .bool false, .bool false, .bool false, .bool false, .bool false, .bool false, .bool false, .bool false, .bool false, .bool false, .bool false, .bool false, .bool false, .bool false, .bool false, .bool false, .bool false, .bool false, .bool false, .bool false, .bool false, .bool false, .bool false, .bool false, .bool false, .bool false, .bool false, .bool false, .bool false, .bool false, .bool false, .bool false, .bool false, .bool false, .bool false, .bool false, .bool false, .bool false, .bool false]) (.int .i64 0) H)
/-- strings.trimLeftASCII -/
def f63_j3 (o : Ops) (K : Nat) (C : CallC) (q3_0 : SV) (H3_0 : Heap) : Rs :=
  o.rest q3_0 fun r11 =>
  some (r11, H3_0)
def f63_l1 (o : Ops) (K : Nat) (C : CallC) : SV → SV → Heap → (SV → SV → Heap → Rs) → Rs := fun y1 y2 H3 k4 =>
  o.slen y1 fun x5 =>
  o.gtr x5 (.int .i64 0) fun x6 =>
  (o.cond x6
  (o.stridx y1 (.int .i64 0) fun x7 =>
  o.call (C 80 [y2, x7] H3) fun x8 H9 =>
  o.u_not x8 fun x10 =>
  (o.cond x10
  ((f63_j3 o K C y1 H9))
  (o.strcut10 y1 (.int .i64 1) fun x12 =>
  k4 x12 y2 H9)))
  ((f63_j3 o K C y1 H3)))
def f63 (o : Ops) (K : Nat) (C : CallC) (a0 a1 : SV) (H : Heap) : Rs :=
  (o.loop2 (f63_l1 o K C) K a0 a1 H)
/-- strings.trimRightASCII -/
def f64_j3 (o : Ops) (K : Nat) (C : CallC) (q3_0 : SV) (H3_0 : Heap) : Rs :=
  o.rest q3_0 fun r13 =>
  some (r13, H3_0)
def f64_l1 (o : Ops) (K : Nat) (C : CallC) : SV → SV → Heap → (SV → SV → Heap → Rs) → Rs := fun y1 y2 H3 k4 =>
  o.slen y1 fun x5 =>
  o.gtr x5 (.int .i64 0) fun x6 =>
  (o.cond x6
  (o.slen y1 fun x7 =>
  o.sub x7 (.int .i64 1) fun x8 =>
  o.stridx y1 x8 fun x9 =>
  o.call (C 80 [y2, x9] H3) fun x10 H11 =>
  o.u_not x10 fun x12 =>
  (o.cond x12
  ((f64_j3 o K C y1 H11))
  (o.slen y1 fun x14 =>
  o.sub x14 (.int .i64 1) fun x15 =>
  o.strcut01 y1 x15 fun x16 =>
  k4 x16 y2 H11)))
  ((f64_j3 o K C y1 H3)))
def f64 (o : Ops) (K : Nat) (C : CallC) (a0 a1 : SV) (H : Heap) : Rs :=
  (o.loop2 (f64_l1 o K C) K a0 a1 H)
/-- strings.trimLeftUnicode -/
def f65_j3 (o : Ops) (K : Nat) (C : CallC) (q3_0 : SV) (H3_0 : Heap) : Rs :=
  o.rest q3_0 fun r14 =>
  some (r14, H3_0)
def f65_l1 (o : Ops) (K : Nat) (C : CallC) : SV → SV → Heap → (SV → SV → Heap → Rs) → Rs := fun y1 y2 H3 k4 =>
  o.slen y1 fun x5 =>
  o.gtr x5 (.int .i64 0) fun x6 =>
  (o.cond x6
  (o.call (C 81 [y1] H3) fun x7 H8 =>
  o.ext 0 x7 fun x9 =>
  o.ext 1 x7 fun x10 =>
  o.call (C 82 [y2, x9] H8) fun x11 H12 =>
  o.u_not x11 fun x13 =>
  (o.cond x13
  ((f65_j3 o K C y1 H12))
  (o.strcut10 y1 x10 fun x15 =>
  k4 x15 y2 H12)))
  ((f65_j3 o K C y1 H3)))
def f65 (o : Ops) (K : Nat) (C : CallC) (a0 a1 : SV) (H : Heap) : Rs :=
  (o.loop2 (f65_l1 o K C) K a0 a1 H)
/-- strings.trimRightUnicode -/
def f66_j4 (o : Ops) (K : Nat) (C : CallC) (q4_0 : SV) (H4_0 : Heap) : Rs :=
  o.rest q4_0 fun r19 =>
  some (r19, H4_0)
def f66_j3 (o : Ops) (K : Nat) (C : CallC) (k4 : SV → SV → Heap → Rs) (q3_0 q3_1 q3_5 q3_6 : SV) (H3_0 : Heap) : Rs :=
  o.call (C 82 [q3_1, q3_5] H3_0) fun x16 H17 =>
  o.u_not x16 fun x18 =>
  (o.cond x18
  ((f66_j4 o K C q3_0 H17))
  (o.slen q3_0 fun x20 =>
  o.sub x20 q3_6 fun x21 =>
  o.strcut01 q3_0 x21 fun x22 =>
  k4 x22 q3_1 H17))
def f66_l1 (o : Ops) (K : Nat) (C : CallC) : SV → SV → Heap → (SV → SV → Heap → Rs) → Rs := fun y1 y2 H3 k4 =>
  o.slen y1 fun x5 =>
  o.gtr x5 (.int .i64 0) fun x6 =>
  (o.cond x6
  (o.slen y1 fun x7 =>
  o.sub x7 (.int .i64 1) fun x8 =>
  o.stridx y1 x8 fun x9 =>
  o.conv .i32 x9 fun x10 =>
  o.geq x10 (.int .i32 128) fun x11 =>
  (o.cond x11
  (o.call (C 83 [y1] H3) fun x12 H13 =>
  o.ext 0 x12 fun x14 =>
  o.ext 1 x12 fun x15 =>
  (f66_j3 o K C k4 y1 y2 x14 x15 H13))
  ((f66_j3 o K C k4 y1 y2 x10 (.int .i64 1) H3))))
  ((f66_j4 o K C y1 H3)))
def f66 (o : Ops) (K : Nat) (C : CallC) (a0 a1 : SV) (H : Heap) : Rs :=
  (o.loop2 (f66_l1 o K C) K a0 a1 H)
/-- (parquet/rat.number).cut -/
def f67_j2 (o : Ops) (K : Nat) (C : CallC) (k3 : SV → Heap → Rs) (q2_0 q2_11 : SV) (H2_0 : Heap) : Rs :=
  (o.cond q2_11
  (o.slice100 1 q2_0 (.int .i64 1) H2_0 fun x9 =>
  k3 x9 H2_0)
  (o.rest q2_0 fun r10 =>
  some (r10, H2_0)))
def f67_l1 (o : Ops) (K : Nat) (C : CallC) : SV → Heap → (SV → Heap → Rs) → Rs := fun y1 H2 k3 =>
  o.len y1 fun x4 =>
  o.gtr x4 (.int .i64 0) fun x5 =>
  (o.guard x5
  (o.idx 1 y1 (.int .i64 0) fun x6 =>
  o.load 1 false x6 H2 fun x7 =>
  o.eql x7 (.int .u64 0) fun x8 =>
  (f67_j2 o K C k3 y1 x8 H2))
  ((f67_j2 o K C k3 y1 (.bool false) H2))
  (none))
def f67 (o : Ops) (K : Nat) (C : CallC) (a0 : SV) (H : Heap) : Rs :=
  (o.loop1 (f67_l1 o K C) K a0 H)
/-- math/bits.Sub32 -/
def f68 (o : Ops) (K : Nat) (C : CallC) (a0 a1 a2 : SV) (H : Heap) : Rs :=
  o.sub a0 a1 fun x1 =>
  o.sub x1 a2 fun x2 =>
  o.u_xor a0 fun x3 =>
  o.and x3 a1 fun x4 =>
  o.xor a0 a1 fun x5 =>
  o.u_xor x5 fun x6 =>
  o.and x6 x2 fun x7 =>
  o.or x4 x7 fun x8 =>
  o.shr x8 (.int .u64 31) fun x9 =>
  o.rest x2 fun r10 =>
  o.rest x9 fun r11 =>
  some (.tuple [r10, r11], H)
/-- math/bits.LeadingZeros32 -/
def f69 (o : Ops) (K : Nat) (C : CallC) (a0 : SV) (H : Heap) : Rs :=
  o.call (C 52 [a0] H) fun x1 H2 =>
  o.sub (.int .i64 32) x1 fun x3 =>
  o.rest x3 fun r4 =>
  some (r4, H2)
/-- parquet/nat.up -/
def f70_j3 (o : Ops) (K : Nat) (C : CallC) (k11 : SV → SV → SV → SV → SV → SV → Heap → Rs) (q3_0 q3_1 q3_7 q3_8 q3_9 q3_13 q3_14 : SV) (H3_0 : Heap) : Rs :=
  o.conv .u32 q3_8 fun x20 =>
  o.idx 1 q3_7 q3_9 fun x21 =>
  o.store 1 x21 x20 H3_0 fun H23 =>
  o.shr q3_8 (.int .u64 32) fun x24 =>
  o.add q3_14 (.int .i64 1) fun x25 =>
  k11 q3_0 q3_1 q3_7 x24 q3_13 x25 H23
def f70_l1 (o : Ops) (K : Nat) (C : CallC) : SV → SV → SV → SV → SV → SV → Heap → (SV → SV → SV → SV → SV → SV → Heap → Rs) → Rs := fun y4 y5 y6 y7 y8 y9 H10 k11 =>
  o.lss y9 y8 fun x12 =>
  (o.cond x12
  (o.len y4 fun x13 =>
  o.lss y9 x13 fun x14 =>
  (o.cond x14
  (o.idx 1 y4 y9 fun x15 =>
  o.load 1 false x15 H10 fun x16 =>
  o.conv .u64 x16 fun x17 =>
  o.shl x17 y5 fun x18 =>
  o.or y7 x18 fun x19 =>
  (f70_j3 o K C k11 y4 y5 y6 x19 y9 y8 y9 H10))
  ((f70_j3 o K C k11 y4 y5 y6 y7 y9 y8 y9 H10))))
  (o.rest y6 fun r26 =>
  some (r26, H10)))
def f70 (o : Ops) (K : Nat) (C : CallC) (a0 a1 a2 : SV) (H : Heap) : Rs :=
  o.make 1 4 [.int .u32 0] a2 a2 H fun x1 H2 =>
  o.len x1 fun x3 =>
  (o.loop6 (f70_l1 o K C) K a0 a1 x1 (.int .u64 0) x3 (.int .i64 0) H2)
/-- parquet/nat.away -/
def f71_j3 (o : Ops) (K : Nat) (C : CallC) (k10 : SV → SV → SV → SV → SV → SV → SV → Heap → Rs) (q3_0 q3_1 q3_2 q3_7 q3_8 q3_9 q3_11 q3_12 : SV) (H3_0 : Heap) : Rs :=
  o.idx 1 q3_0 q3_9 fun x20 =>
  o.load 1 false x20 H3_0 fun x21 =>
  o.conv .u32 q3_7 fun x22 =>
  o.call (C 68 [x21, x22, q3_8] H3_0) fun x23 H24 =>
  o.ext 0 x23 fun x25 =>
  o.ext 1 x23 fun x26 =>
  o.idx 1 q3_0 q3_9 fun x27 =>
  o.store 1 x27 x25 H24 fun H29 =>
  o.shr q3_7 (.int .u64 32) fun x30 =>
  o.add q3_12 (.int .i64 1) fun x31 =>
  k10 q3_0 q3_1 q3_2 x30 x26 q3_11 x31 H29
def f71_l1 (o : Ops) (K : Nat) (C : CallC) : SV → SV → SV → SV → SV → SV → SV → Heap → (SV → SV → SV → SV → SV → SV → SV → Heap → Rs) → Rs := fun y2 y3 y4 y5 y6 y7 y8 H9 k10 =>
  o.lss y8 y7 fun x11 =>
  (o.cond x11
  (o.len y3 fun x12 =>
  o.lss y8 x12 fun x13 =>
  (o.cond x13
  (o.idx 1 y3 y8 fun x14 =>
  o.load 1 false x14 H9 fun x15 =>
  o.conv .u64 x15 fun x16 =>
  o.conv .u64 y4 fun x17 =>
  o.mul x16 x17 fun x18 =>
  o.add y5 x18 fun x19 =>
  (f71_j3 o K C k10 y2 y3 y4 x19 y6 y8 y7 y8 H9))
  ((f71_j3 o K C k10 y2 y3 y4 y5 y6 y8 y7 y8 H9))))
  (o.neq y6 (.int .u32 0) fun x32 =>
  o.rest x32 fun r33 =>
  some (r33, H9)))
def f71 (o : Ops) (K : Nat) (C : CallC) (a0 a1 a2 : SV) (H : Heap) : Rs :=
  o.len a0 fun x1 =>
  (o.loop7 (f71_l1 o K C) K a0 a1 a2 (.int .u64 0) (.int .u32 0) x1 (.int .i64 0) H)
/-- parquet/nat.down -/
def f72_j3 (o : Ops) (K : Nat) (C : CallC) (k12 : SV → SV → SV → SV → SV → SV → Heap → Rs) (q3_0 q3_1 q3_4 q3_5 q3_6 q3_7 q3_12 q3_13 : SV) (H3_0 : Heap) : Rs :=
  o.shr q3_7 q3_1 fun x26 =>
  o.conv .u32 x26 fun x27 =>
  o.idx 1 q3_5 q3_6 fun x28 =>
  o.store 1 x28 x27 H3_0 fun H30 =>
  o.add q3_13 (.int .i64 1) fun x31 =>
  k12 q3_0 q3_1 q3_4 q3_5 q3_12 x31 H30
def f72_l1 (o : Ops) (K : Nat) (C : CallC) : SV → SV → SV → SV → SV → SV → Heap → (SV → SV → SV → SV → SV → SV → Heap → Rs) → Rs := fun y5 y6 y7 y8 y9 y10 H11 k12 =>
  o.lss y10 y9 fun x13 =>
  (o.cond x13
  (o.idx 1 y5 y10 fun x14 =>
  o.load 1 false x14 H11 fun x15 =>
  o.conv .u64 x15 fun x16 =>
  o.add y10 (.int .i64 1) fun x17 =>
  o.len y5 fun x18 =>
  o.lss x17 x18 fun x19 =>
  (o.cond x19
  (o.add y10 (.int .i64 1) fun x20 =>
  o.idx 1 y5 x20 fun x21 =>
  o.load 1 false x21 H11 fun x22 =>
  o.conv .u64 x22 fun x23 =>
  o.shl x23 (.int .u64 32) fun x24 =>
  o.or x16 x24 fun x25 =>
  (f72_j3 o K C k12 y5 y6 y7 y8 y10 x25 y9 y10 H11))
  ((f72_j3 o K C k12 y5 y6 y7 y8 y10 x16 y9 y10 H11))))
  (o.call (C 37 [y8] H11) fun x32 H33 =>
  o.bstore 0 1 y7 x32 fun c34 =>
  o.resc 1 true (.box c34) fun r35 =>
  some (r35, H33)))
def f72 (o : Ops) (K : Nat) (C : CallC) (a0 a1 : SV) (H : Heap) : Rs :=
  o.len a0 fun x1 =>
  o.make 1 4 [.int .u32 0] x1 x1 H fun x2 H3 =>
  o.len a0 fun x4 =>
  (o.loop6 (f72_l1 o K C) K a0 a1 (.box [.slice nilSl]) x2 x4 (.int .i64 0) H3)
/-- parquet/rat.cross$1 -/
def f73 (o : Ops) (K : Nat) (C : CallC) (a0 a1 : SV) (H : Heap) : Rs :=
  o.bbox a0 fun c1 =>
  o.bbox a1 fun c2 =>
  o.lload 0 2 true (.box c1) fun x3 =>
  o.lload 0 1 true (.box c2) fun x4 =>
  o.call (C 24 [(.bool false), x4] H) fun x5 H6 =>
  o.call (C 74 [x3, x5] H6) fun x7 H8 =>
  o.ext 0 x7 fun x9 =>
  o.ext 1 x7 fun x10 =>
  o.bstore 0 2 (.box [.bool false, .slice nilSl]) x9 fun c11 =>
  o.resc 2 true (.box c11) fun r12 =>
  o.rest x10 fun r13 =>
  some (.tuple [r12, r13], H8)
/-- parquet/zint.Mul -/
def f74 (o : Ops) (K : Nat) (C : CallC) (a0 a1 : SV) (H : Heap) : Rs :=
  o.bbox a0 fun c1 =>
  o.bbox a1 fun c2 =>
  o.lfld 1 (.box c1) fun x3 =>
  o.lloadp 1 true (.box c1) x3 fun x4 =>
  o.lfld 1 (.box c2) fun x5 =>
  o.lloadp 1 true (.box c2) x5 fun x6 =>
  o.call (C 75 [x4, x6] H) fun x7 H8 =>
  o.ext 0 x7 fun x9 =>
  o.ext 1 x7 fun x10 =>
  o.bstore 0 1 (.box [.slice nilSl]) x9 fun c11 =>
  o.lfld 0 (.box c1) fun x12 =>
  o.lloadp 1 false (.box c1) x12 fun x13 =>
  o.lfld 0 (.box c2) fun x14 =>
  o.lloadp 1 false (.box c2) x14 fun x15 =>
  o.b_neq x13 x15 fun x16 =>
  o.lload 0 1 true (.box c11) fun x17 =>
  o.call (C 24 [x16, x17] H8) fun x18 H19 =>
  o.bstore 0 2 (.box [.bool false, .slice nilSl]) x18 fun c20 =>
  o.resc 2 true (.box c20) fun r21 =>
  o.rest x10 fun r22 =>
  some (.tuple [r21, r22], H19)
/-- parquet/nat.Mul -/
def f75 (o : Ops) (K : Nat) (C : CallC) (a0 a1 : SV) (H : Heap) : Rs :=
  o.bbox a0 fun c1 =>
  o.bbox a1 fun c2 =>
  o.lload 0 1 true (.box c1) fun x3 =>
  o.call (C 30 [x3] H) fun x4 H5 =>
  o.lload 0 1 true (.box c2) fun x6 =>
  o.call (C 30 [x6] H5) fun x7 H8 =>
  o.add x4 x7 fun x9 =>
  o.gtr x9 (.int .i64 4097) fun x10 =>
  (o.cond x10
  (o.build [.slice nilSl] [] [] fun x11 =>
  o.bstore 0 1 (.box [.slice nilSl]) x11 fun c12 =>
  o.resc 1 true (.box c12) fun r13 =>
  some (.tuple [r13, (.int .i64 3)], H8))
  (o.lload 0 1 true (.box c1) fun x15 =>
  o.lload 0 1 true (.box c2) fun x16 =>
  o.call (C 84 [x15, x16] H8) fun x17 H18 =>
  o.call (C 45 [x17] H18) fun x19 H20 =>
  o.ext 0 x19 fun x21 =>
  o.ext 1 x19 fun x22 =>
  o.bstore 0 1 (.box [.slice nilSl]) x21 fun c23 =>
  o.resc 1 true (.box c23) fun r24 =>
  o.rest x22 fun r25 =>
  some (.tuple [r24, r25], H20)))
/-- internal/stringslite.IndexByte -/
def f76 (o : Ops) (K : Nat) (C : CallC) (a0 a1 : SV) (H : Heap) : Rs :=
  o.call (C 85 [a0, a1] H) fun x1 H2 =>
  o.rest x1 fun r3 =>
  some (r3, H2)
/-- internal/bytealg.Cutover -/
def f78 (o : Ops) (K : Nat) (C : CallC) (a0 : SV) (H : Heap) : Rs :=
  o.add a0 (.int .i64 16) fun x1 =>
  o.quo x1 (.int .i64 8) fun x2 =>
  o.rest x2 fun r3 =>
  some (r3, H)
/-- internal/bytealg.IndexRabinKarp[string] -/
def f79_j9 (o : Ops) (K : Nat) (C : CallC) (k33 : SV → SV → SV → SV → SV → SV → SV → Heap → Rs) (q9_0 q9_1 q9_5 q9_6 q9_7 q9_8 q9_10 q9_77 : SV) (H9_0 : Heap) : Rs :=
  (o.cond q9_77
  (o.sub q9_10 q9_7 fun x50 =>
  o.rest x50 fun r51 =>
  some (r51, H9_0))
  (k33 q9_0 q9_1 q9_5 q9_6 q9_7 q9_8 q9_10 H9_0))
def f79_l7 (o : Ops) (K : Nat) (C : CallC) : SV → SV → SV → SV → SV → SV → SV → Heap → (SV → SV → SV → SV → SV → SV → SV → Heap → Rs) → Rs := fun y25 y26 y27 y28 y29 y30 y31 H32 k33 =>
  o.slen y25 fun x34 =>
  o.lss y31 x34 fun x35 =>
  (o.cond x35
  (o.mul y30 (.int .u32 16777619) fun x36 =>
  o.stridx y25 y31 fun x37 =>
  o.conv .u32 x37 fun x38 =>
  o.add x36 x38 fun x39 =>
  o.sub y31 y29 fun x40 =>
  o.stridx y25 x40 fun x41 =>
  o.conv .u32 x41 fun x42 =>
  o.mul y28 x42 fun x43 =>
  o.sub x39 x43 fun x44 =>
  o.add y31 (.int .i64 1) fun x45 =>
  o.eql x44 y27 fun x46 =>
  (o.guard x46
  (o.sub x45 y29 fun x47 =>
  o.strcut11 y25 x47 x45 fun x48 =>
  o.eql x48 y26 fun x49 =>
  (f79_j9 o K C k33 y25 y26 y27 y28 y29 x44 x45 x49 H32))
  ((f79_j9 o K C k33 y25 y26 y27 y28 y29 x44 x45 (.bool false) H32))
  (none)))
  (some ((.int .i64 (-1)), H32)))
def f79_j5 (o : Ops) (K : Nat) (C : CallC) (q5_0 q5_1 q5_5 q5_6 q5_7 q5_8 q5_39 : SV) (H5_0 : Heap) : Rs :=
  (o.cond q5_39
  (some ((.int .i64 0), H5_0))
  ((o.loop7 (f79_l7 o K C) K q5_0 q5_1 q5_5 q5_6 q5_7 q5_8 q5_7 H5_0)))
def f79_l1 (o : Ops) (K : Nat) (C : CallC) : SV → SV → SV → SV → SV → SV → SV → Heap → (SV → SV → SV → SV → SV → SV → SV → Heap → Rs) → Rs := fun y6 y7 y8 y9 y10 y11 y12 H13 k14 =>
  o.lss y12 y10 fun x15 =>
  (o.cond x15
  (o.mul y11 (.int .u32 16777619) fun x16 =>
  o.stridx y6 y12 fun x17 =>
  o.conv .u32 x17 fun x18 =>
  o.add x16 x18 fun x19 =>
  o.add y12 (.int .i64 1) fun x20 =>
  k14 y6 y7 y8 y9 y10 x19 x20 H13)
  (o.eql y11 y8 fun x21 =>
  (o.guard x21
  (o.strcut01 y6 y10 fun x22 =>
  o.eql x22 y7 fun x23 =>
  (f79_j5 o K C y6 y7 y8 y9 y10 y11 x23 H13))
  ((f79_j5 o K C y6 y7 y8 y9 y10 y11 (.bool false) H13))
  (none))))
def f79 (o : Ops) (K : Nat) (C : CallC) (a0 a1 : SV) (H : Heap) : Rs :=
  o.call (C 86 [a1] H) fun x1 H2 =>
  o.ext 0 x1 fun x3 =>
  o.ext 1 x1 fun x4 =>
  o.slen a1 fun x5 =>
  (o.loop7 (f79_l1 o K C) K a0 a1 x3 x4 x5 (.int .u32 0) (.int .i64 0) H2)
/-- (*strings.asciiSet).contains -/
def f80 (o : Ops) (K : Nat) (C : CallC) (a0 a1 : SV) (H : Heap) : Rs :=
  o.nilchk a0 fun x1 =>
  o.pidx 256 1 x1 a1 fun x2 =>
  o.load 1 false x2 H fun x3 =>
  o.rest x3 fun r4 =>
  some (r4, H)
/-- unicode/utf8.DecodeRuneInString -/
def f81_j1 (o : Ops) (K : Nat) (C : CallC) (q1_0 q1_10 : SV) (H1_0 : Heap) : Rs :=
  (o.cond q1_10
  (o.stridx q1_0 (.int .i64 0) fun x4 =>
  o.conv .i32 x4 fun x5 =>
  o.rest x5 fun r6 =>
  some (.tuple [r6, (.int .i64 1)], H1_0))
  (o.call (C 87 [q1_0] H1_0) fun x8 H9 =>
  o.ext 0 x8 fun x10 =>
  o.ext 1 x8 fun x11 =>
  o.rest x10 fun r12 =>
  o.rest x11 fun r13 =>
  some (.tuple [r12, r13], H9)))
def f81 (o : Ops) (K : Nat) (C : CallC) (a0 : SV) (H : Heap) : Rs :=
  o.neq a0 (.str []) fun x1 =>
  (o.guard x1
  (o.stridx a0 (.int .i64 0) fun x2 =>
  o.lss x2 (.int .u8 128) fun x3 =>
  (f81_j1 o K C a0 x3 H))
  ((f81_j1 o K C a0 (.bool false) H))
  (none))
/-- strings.ContainsRune -/
def f82 (o : Ops) (K : Nat) (C : CallC) (a0 a1 : SV) (H : Heap) : Rs :=
  o.call (C 88 [a0, a1] H) fun x1 H2 =>
  o.geq x1 (.int .i64 0) fun x3 =>
  o.rest x3 fun r4 =>
  some (r4, H2)
/-- unicode/utf8.DecodeLastRuneInString -/
def f83_j6 (o : Ops) (K : Nat) (C : CallC) (q6_0 q6_4 q6_5 : SV) (H6_0 : Heap) : Rs :=
  o.strcut11 q6_0 q6_5 q6_4 fun x25 =>
  o.call (C 81 [x25] H6_0) fun x26 H27 =>
  o.ext 0 x26 fun x28 =>
  o.ext 1 x26 fun x29 =>
  o.add q6_5 x29 fun x30 =>
  o.neq x30 q6_4 fun x31 =>
  (o.cond x31
  (some (.tuple [(.int .i32 65533), (.int .i64 1)], H27))
  (o.rest x28 fun r34 =>
  o.rest x29 fun r35 =>
  some (.tuple [r34, r35], H27)))
def f83_j5 (o : Ops) (K : Nat) (C : CallC) (q5_0 q5_4 q5_5 : SV) (H5_0 : Heap) : Rs :=
  o.lss q5_5 (.int .i64 0) fun x24 =>
  (o.cond x24
  ((f83_j6 o K C q5_0 q5_4 (.int .i64 0) H5_0))
  ((f83_j6 o K C q5_0 q5_4 q5_5 H5_0)))
def f83_l3 (o : Ops) (K : Nat) (C : CallC) : SV → SV → SV → SV → Heap → (SV → SV → SV → SV → Heap → Rs) → Rs := fun y14 y15 y16 y17 H18 k19 =>
  o.geq y16 y17 fun x20 =>
  (o.cond x20
  (o.stridx y14 y16 fun x21 =>
  o.call (C 89 [x21] H18) fun x22 H23 =>
  (o.cond x22
  ((f83_j5 o K C y14 y15 y16 H23))
  (o.sub y16 (.int .i64 1) fun x36 =>
  k19 y14 y15 x36 y17 H23)))
  ((f83_j5 o K C y14 y15 y16 H18)))
def f83 (o : Ops) (K : Nat) (C : CallC) (a0 : SV) (H : Heap) : Rs :=
  o.slen a0 fun x1 =>
  o.eql x1 (.int .i64 0) fun x2 =>
  (o.cond x2
  (some (.tuple [(.int .i32 65533), (.int .i64 0)], H))
  (o.sub x1 (.int .i64 1) fun x5 =>
  o.stridx a0 x5 fun x6 =>
  o.conv .i32 x6 fun x7 =>
  o.lss x7 (.int .i32 128) fun x8 =>
  (o.cond x8
  (o.rest x7 fun r9 =>
  some (.tuple [r9, (.int .i64 1)], H))
  (o.sub x1 (.int .i64 4) fun x11 =>
  o.max [x11, (.int .i64 0)] fun x12 =>
  o.sub x5 (.int .i64 1) fun x13 =>
  (o.loop4 (f83_l3 o K C) K a0 x1 x13 x12 H)))))
/-- parquet/nat.product -/
def f84_l3 (o : Ops) (K : Nat) (C : CallC) (k22 : SV → SV → SV → SV → SV → SV → Heap → Rs) : SV → SV → SV → SV → SV → SV → SV → SV → SV → SV → SV → SV → Heap → (SV → SV → SV → SV → SV → SV → SV → SV → SV → SV → SV → SV → Heap → Rs) → Rs := fun y29 y30 y31 y32 y33 y34 y35 y36 y37 y38 y39 y40 H41 k42 =>
  o.lss y40 y39 fun x43 =>
  (o.cond x43
  (o.idx 1 y38 y40 fun x44 =>
  o.load 1 false x44 H41 fun x45 =>
  o.conv .u64 y33 fun x46 =>
  o.conv .u64 x45 fun x47 =>
  o.mul x46 x47 fun x48 =>
  o.add y32 y40 fun x49 =>
  o.idx 1 y31 x49 fun x50 =>
  o.load 1 false x50 H41 fun x51 =>
  o.conv .u64 x51 fun x52 =>
  o.add x48 x52 fun x53 =>
  o.add y34 x53 fun x54 =>
  o.add y32 y40 fun x55 =>
  o.conv .u32 x54 fun x56 =>
  o.idx 1 y31 x55 fun x57 =>
  o.store 1 x57 x56 H41 fun H59 =>
  o.shr x54 (.int .u64 32) fun x60 =>
  o.add y40 (.int .i64 1) fun x61 =>
  k42 y29 y30 y31 y32 y33 x60 y35 y36 y37 y38 y39 x61 H59)
  (o.lfld 0 y29 fun x62 =>
  o.lloadp 1 false y29 x62 fun x63 =>
  o.len x63 fun x64 =>
  o.add y32 x64 fun x65 =>
  o.conv .u32 y34 fun x66 =>
  o.idx 1 y31 x65 fun x67 =>
  o.store 1 x67 x66 H41 fun H69 =>
  o.add y37 (.int .i64 1) fun x70 =>
  k22 y29 y30 y31 y35 y36 x70 H69))
def f84_l1 (o : Ops) (K : Nat) (C : CallC) : SV → SV → SV → SV → SV → SV → Heap → (SV → SV → SV → SV → SV → SV → Heap → Rs) → Rs := fun y15 y16 y17 y18 y19 y20 H21 k22 =>
  o.lss y20 y19 fun x23 =>
  (o.cond x23
  (o.idx 1 y18 y20 fun x24 =>
  o.load 1 false x24 H21 fun x25 =>
  o.lfld 0 y15 fun x26 =>
  o.lloadp 1 false y15 x26 fun x27 =>
  o.len x27 fun x28 =>
  (o.loop12 (f84_l3 o K C k22) K y15 y16 y17 y20 x25 (.int .u64 0) y18 y19 y20 x27 x28 (.int .i64 0) H21))
  (o.call (C 37 [y17] H21) fun x71 H72 =>
  o.bstore 0 1 y16 x71 fun c73 =>
  o.resc 1 true (.box c73) fun r74 =>
  some (r74, H72)))
def f84 (o : Ops) (K : Nat) (C : CallC) (a0 a1 : SV) (H : Heap) : Rs :=
  o.bbox a0 fun c1 =>
  o.bbox a1 fun c2 =>
  o.lfld 0 (.box c1) fun x3 =>
  o.lloadp 1 false (.box c1) x3 fun x4 =>
  o.len x4 fun x5 =>
  o.lfld 0 (.box c2) fun x6 =>
  o.lloadp 1 false (.box c2) x6 fun x7 =>
  o.len x7 fun x8 =>
  o.add x5 x8 fun x9 =>
  o.make 1 4 [.int .u32 0] x9 x9 H fun x10 H11 =>
  o.lfld 0 (.box c1) fun x12 =>
  o.lloadp 1 false (.box c1) x12 fun x13 =>
  o.len x13 fun x14 =>
  (o.loop6 (f84_l1 o K C) K (.box c2) (.box [.slice nilSl]) x10 x13 x14 (.int .i64 0) H11)
/-- internal/bytealg.hashStr[string] -/
def f86_j7 (o : Ops) (K : Nat) (C : CallC) (k19 : SV → SV → SV → SV → Heap → Rs) (q7_4 q7_6 q7_7 q7_8 : SV) (H7_0 : Heap) : Rs :=
  o.mul q7_7 q7_7 fun x24 =>
  o.shr q7_8 (.int .u64 1) fun x25 =>
  k19 q7_4 q7_6 x24 x25 H7_0
def f86_l5 (o : Ops) (K : Nat) (C : CallC) : SV → SV → SV → SV → Heap → (SV → SV → SV → SV → Heap → Rs) → Rs := fun y14 y15 y16 y17 H18 k19 =>
  o.gtr y17 (.int .i64 0) fun x20 =>
  (o.cond x20
  (o.and y17 (.int .i64 1) fun x21 =>
  o.neq x21 (.int .i64 0) fun x22 =>
  (o.cond x22
  (o.mul y15 y16 fun x23 =>
  (f86_j7 o K C k19 y14 x23 y16 y17 H18))
  ((f86_j7 o K C k19 y14 y15 y16 y17 H18))))
  (o.rest y14 fun r26 =>
  o.rest y15 fun r27 =>
  some (.tuple [r26, r27], H18)))
def f86_l1 (o : Ops) (K : Nat) (C : CallC) : SV → SV → SV → Heap → (SV → SV → SV → Heap → Rs) → Rs := fun y1 y2 y3 H4 k5 =>
  o.slen y1 fun x6 =>
  o.lss y3 x6 fun x7 =>
  (o.cond x7
  (o.mul y2 (.int .u32 16777619) fun x8 =>
  o.stridx y1 y3 fun x9 =>
  o.conv .u32 x9 fun x10 =>
  o.add x8 x10 fun x11 =>
  o.add y3 (.int .i64 1) fun x12 =>
  k5 y1 x11 x12 H4)
  (o.slen y1 fun x13 =>
  (o.loop4 (f86_l5 o K C) K y2 (.int .u32 1) (.int .u32 16777619) x13 H4)))
def f86 (o : Ops) (K : Nat) (C : CallC) (a0 : SV) (H : Heap) : Rs :=
  (o.loop3 (f86_l1 o K C) K a0 (.int .u32 0) (.int .i64 0) H)
/-- unicode/utf8.RuneStart -/
def f89 (o : Ops) (K : Nat) (C : CallC) (a0 : SV) (H : Heap) : Rs :=
  o.and a0 (.int .u8 192) fun x1 =>
  o.neq x1 (.int .u8 128) fun x2 =>
  o.rest x2 fun r3 =>
  some (r3, H)
end Go.Sh.Of
