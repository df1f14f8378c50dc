/- Plain forms, printed by a program. -/
import Derived.Test.YtdmpghboginogaaSh26
set_option linter.unusedVariables false
set_option maxRecDepth 100000
namespace Go.Sh.Of
open Go
/-- parquet/parquetlaw18.PermGroup -/
def f3_j1 (o : Ops) (K : Nat) (C : CallC) (q1_8 : SV) (H1_0 : Heap) : Rs :=
  o.rest q1_8 fun r74 =>
  some (r74, H1_0)
def f3 (o : Ops) (K : Nat) (C : CallC) (a0 a1 a2 a3 : SV) (H : Heap) : Rs :=
  o.conv .i64 a3 fun x1 =>
  o.rem x1 (.int .i64 64) fun x2 =>
  o.add x2 (.int .i64 1) fun x3 =>
  o.call (C 6 [a0, x3] H) fun x4 H5 =>
  o.call (C 6 [a1, x3] H5) fun x6 H7 =>
  o.call (C 6 [a2, x3] H7) fun x8 H9 =>
  o.call (C 7 [x4, x6] H9) fun x10 H11 =>
  o.ext 0 x10 fun x12 =>
  o.ext 1 x10 fun x13 =>
  o.call (C 7 [x12, x8] H11) fun x14 H15 =>
  o.ext 0 x14 fun x16 =>
  o.ext 1 x14 fun x17 =>
  o.call (C 7 [x6, x8] H15) fun x18 H19 =>
  o.ext 0 x18 fun x20 =>
  o.ext 1 x18 fun x21 =>
  o.call (C 7 [x4, x20] H19) fun x22 H23 =>
  o.ext 0 x22 fun x24 =>
  o.ext 1 x22 fun x25 =>
  o.call (C 8 [x4] H23) fun x26 H27 =>
  o.ext 0 x26 fun x28 =>
  o.ext 1 x26 fun x29 =>
  o.call (C 8 [x6] H27) fun x30 H31 =>
  o.ext 0 x30 fun x32 =>
  o.ext 1 x30 fun x33 =>
  o.call (C 8 [x12] H31) fun x34 H35 =>
  o.ext 0 x34 fun x36 =>
  o.ext 1 x34 fun x37 =>
  o.call (C 7 [x32, x28] H35) fun x38 H39 =>
  o.ext 0 x38 fun x40 =>
  o.ext 1 x38 fun x41 =>
  o.call (C 7 [x4, x28] H39) fun x42 H43 =>
  o.ext 0 x42 fun x44 =>
  o.ext 1 x42 fun x45 =>
  o.call (C 9 [x4] H43) fun x46 H47 =>
  o.ext 0 x46 fun x48 =>
  o.ext 1 x46 fun x49 =>
  o.call (C 9 [x6] H47) fun x50 H51 =>
  o.ext 0 x50 fun x52 =>
  o.ext 1 x50 fun x53 =>
  o.call (C 9 [x12] H51) fun x54 H55 =>
  o.ext 0 x54 fun x56 =>
  o.ext 1 x54 fun x57 =>
  o.eql x13 (.int .i64 0) fun x58 =>
  (o.guard x58
  (o.eql x25 (.int .i64 0) fun x59 =>
  (o.guard x59
  (o.eql x45 (.int .i64 0) fun x60 =>
  (o.guard x60
  (o.eql x57 (.int .i64 0) fun x61 =>
  (o.guard x61
  (o.call (C 10 [x16, x24] H55) fun x62 H63 =>
  (o.guard x62
  (o.call (C 10 [x36, x40] H63) fun x64 H65 =>
  (o.guard x64
  (o.call (C 11 [x44] H65) fun x66 H67 =>
  (o.guard x66
  (o.len x44 fun x68 =>
  o.eql x68 x3 fun x69 =>
  (o.guard x69
  (o.b_eql x48 x52 fun x70 =>
  o.b_eql x56 x70 fun x71 =>
  (o.guard x71
  (o.call (C 12 [] H67) fun x72 H73 =>
  (f3_j1 o K C x72 H73))
  ((f3_j1 o K C (.bool false) H67))
  (none)))
  ((f3_j1 o K C (.bool false) H67))
  (none)))
  ((f3_j1 o K C (.bool false) H67))
  (none)))
  ((f3_j1 o K C (.bool false) H65))
  (none)))
  ((f3_j1 o K C (.bool false) H63))
  (none)))
  ((f3_j1 o K C (.bool false) H55))
  (none)))
  ((f3_j1 o K C (.bool false) H55))
  (none)))
  ((f3_j1 o K C (.bool false) H55))
  (none)))
  ((f3_j1 o K C (.bool false) H55))
  (none))
/-- parquet/parquetlaw18.PermCycles -/
def f4_l11 (o : Ops) (K : Nat) (C : CallC) (k45 : SV → SV → SV → SV → SV → SV → SV → SV → Heap → Rs) : SV → SV → SV → SV → SV → SV → SV → SV → SV → Heap → (SV → SV → SV → SV → SV → SV → SV → SV → SV → Heap → Rs) → Rs := fun y53 y54 y55 y56 y57 y58 y59 y60 y61 H62 k63 =>
  o.idx 1 y55 y60 fun x64 =>
  o.load 1 false x64 H62 fun x65 =>
  o.len x65 fun x66 =>
  o.lss y61 x66 fun x67 =>
  (o.cond x67
  (o.idx 1 y55 y60 fun x68 =>
  o.load 1 false x68 H62 fun x69 =>
  o.idx 1 x69 y61 fun x70 =>
  o.load 1 false x70 H62 fun x71 =>
  o.idx 1 y55 y60 fun x72 =>
  o.load 1 false x72 H62 fun x73 =>
  o.idx 1 x73 (.int .i64 0) fun x74 =>
  o.load 1 false x74 H62 fun x75 =>
  o.lss x71 x75 fun x76 =>
  (o.cond x76
  (some ((.bool false), H62))
  (o.idx 1 y55 y60 fun x78 =>
  o.load 1 false x78 H62 fun x79 =>
  o.idx 1 x79 y61 fun x80 =>
  o.load 1 false x80 H62 fun x81 =>
  o.idx 1 y55 y60 fun x82 =>
  o.load 1 false x82 H62 fun x83 =>
  o.add y61 (.int .i64 1) fun x84 =>
  o.idx 1 y55 y60 fun x85 =>
  o.load 1 false x85 H62 fun x86 =>
  o.len x86 fun x87 =>
  o.rem x84 x87 fun x88 =>
  o.idx 1 x83 x88 fun x89 =>
  o.load 1 false x89 H62 fun x90 =>
  o.idx 1 y58 x81 fun x91 =>
  o.store 1 x91 x90 H62 fun H93 =>
  o.add y61 (.int .i64 1) fun x94 =>
  k63 y53 y54 y55 y56 y57 y58 y59 y60 x94 H93)))
  (o.idx 1 y55 y60 fun x95 =>
  o.load 1 false x95 H62 fun x96 =>
  o.len x96 fun x97 =>
  o.add x97 (.int .i64 1) fun x98 =>
  o.rem x98 (.int .i64 2) fun x99 =>
  o.add y59 x99 fun x100 =>
  o.add y60 (.int .i64 1) fun x101 =>
  k45 y53 y54 y55 y56 y57 y58 x100 x101 H62))
def f4_j9 (o : Ops) (K : Nat) (C : CallC) (k45 : SV → SV → SV → SV → SV → SV → SV → SV → Heap → Rs) (q9_5 q9_6 q9_7 q9_9 q9_11 q9_13 q9_15 q9_16 q9_94 : SV) (H9_0 : Heap) : Rs :=
  (o.cond q9_94
  (some ((.bool false), H9_0))
  ((o.loop9 (f4_l11 o K C k45) K q9_5 q9_6 q9_7 q9_9 q9_11 q9_13 q9_15 q9_16 (.int .i64 0) H9_0)))
def f4_j22 (o : Ops) (K : Nat) (C : CallC) (k123 : SV → SV → SV → SV → SV → Heap → Rs) (q22_5 q22_6 q22_9 q22_18 q22_19 q22_180 : SV) (H22_0 : Heap) : Rs :=
  (o.cond q22_180
  (some ((.bool false), H22_0))
  (k123 q22_5 q22_6 q22_9 q22_18 q22_19 H22_0))
def f4_j26 (o : Ops) (K : Nat) (C : CallC) (q26_4 : SV) (H26_0 : Heap) : Rs :=
  o.rest q26_4 fun r141 =>
  some (r141, H26_0)
def f4_l20 (o : Ops) (K : Nat) (C : CallC) : SV → SV → SV → SV → SV → Heap → (SV → SV → SV → SV → SV → Heap → Rs) → Rs := fun y117 y118 y119 y120 y121 H122 k123 =>
  o.call (C 11 [y121] H122) fun x124 H125 =>
  o.u_not x124 fun x126 =>
  (o.cond x126
  (o.call (C 7 [y121, y118] H125) fun x127 H128 =>
  o.ext 0 x127 fun x129 =>
  o.ext 1 x127 fun x130 =>
  o.add y120 (.int .i64 1) fun x131 =>
  o.gtr x131 (.int .i64 10000) fun x132 =>
  (o.guard x132
  ((f4_j22 o K C k123 y117 y118 y119 x131 x129 (.bool true) H128))
  (o.len x129 fun x134 =>
  o.neq x134 y117 fun x135 =>
  (f4_j22 o K C k123 y117 y118 y119 x131 x129 x135 H128))
  (none)))
  (o.call (C 15 [y120] H125) fun x136 H137 =>
  o.eql y119 x136 fun x138 =>
  (o.guard x138
  (o.call (C 12 [] H137) fun x139 H140 =>
  (f4_j26 o K C x139 H140))
  ((f4_j26 o K C (.bool false) H137))
  (none))))
def f4_j18 (o : Ops) (K : Nat) (C : CallC) (q18_5 q18_6 q18_9 q18_160 : SV) (H18_0 : Heap) : Rs :=
  (o.cond q18_160
  (some ((.bool false), H18_0))
  ((o.loop5 (f4_l20 o K C) K q18_5 q18_6 q18_9 (.int .i64 1) q18_6 H18_0)))
def f4_l7 (o : Ops) (K : Nat) (C : CallC) : SV → SV → SV → SV → SV → SV → SV → SV → Heap → (SV → SV → SV → SV → SV → SV → SV → SV → Heap → Rs) → Rs := fun y36 y37 y38 y39 y40 y41 y42 y43 H44 k45 =>
  o.len y38 fun x46 =>
  o.lss y43 x46 fun x47 =>
  (o.cond x47
  (o.idx 1 y38 y43 fun x48 =>
  o.load 1 false x48 H44 fun x49 =>
  o.len x49 fun x50 =>
  o.lss x50 (.int .i64 2) fun x51 =>
  (o.guard x51
  ((f4_j9 o K C k45 y36 y37 y38 y39 y40 y41 y42 y43 (.bool true) H44))
  (o.gtr y43 (.int .i64 0) fun x102 =>
  (o.guard x102
  (o.idx 1 y38 y43 fun x103 =>
  o.load 1 false x103 H44 fun x104 =>
  o.idx 1 x104 (.int .i64 0) fun x105 =>
  o.load 1 false x105 H44 fun x106 =>
  o.sub y43 (.int .i64 1) fun x107 =>
  o.idx 1 y38 x107 fun x108 =>
  o.load 1 false x108 H44 fun x109 =>
  o.idx 1 x109 (.int .i64 0) fun x110 =>
  o.load 1 false x110 H44 fun x111 =>
  o.leq x106 x111 fun x112 =>
  (f4_j9 o K C k45 y36 y37 y38 y39 y40 y41 y42 y43 x112 H44))
  ((f4_j9 o K C k45 y36 y37 y38 y39 y40 y41 y42 y43 (.bool false) H44))
  (none)))
  (none)))
  (o.call (C 10 [y37, y41] H44) fun x113 H114 =>
  o.u_not x113 fun x115 =>
  (o.guard x115
  ((f4_j18 o K C y36 y37 y39 (.bool true) H114))
  (o.rem y42 (.int .i64 2) fun x142 =>
  o.eql x142 (.int .i64 0) fun x143 =>
  o.b_neq y40 x143 fun x144 =>
  (f4_j18 o K C y36 y37 y39 x144 H114))
  (none))))
def f4_l3 (o : Ops) (K : Nat) (C : CallC) : SV → SV → SV → SV → SV → SV → SV → Heap → (SV → SV → SV → SV → SV → SV → SV → Heap → Rs) → Rs := fun y22 y23 y24 y25 y26 y27 y28 H29 k30 =>
  o.lss y28 y22 fun x31 =>
  (o.cond x31
  (o.idx 1 y27 y28 fun x32 =>
  o.store 1 x32 y28 H29 fun H34 =>
  o.add y28 (.int .i64 1) fun x35 =>
  k30 y22 y23 y24 y25 y26 y27 x35 H34)
  ((o.loop8 (f4_l7 o K C) K y22 y23 y24 y25 y26 y27 (.int .i64 0) (.int .i64 0) H29)))
def f4_j1 (o : Ops) (K : Nat) (C : CallC) (q1_5 q1_6 q1_7 q1_9 q1_11 q1_51 : SV) (H1_0 : Heap) : Rs :=
  (o.cond q1_51
  (some ((.bool false), H1_0))
  (o.make 1 8 [.int .i64 0] q1_5 q1_5 H1_0 fun x20 H21 =>
  (o.loop7 (f4_l3 o K C) K q1_5 q1_6 q1_7 q1_9 q1_11 x20 (.int .i64 0) H21)))
def f4 (o : Ops) (K : Nat) (C : CallC) (a0 a1 : SV) (H : Heap) : Rs :=
  o.conv .i64 a1 fun x1 =>
  o.rem x1 (.int .i64 20) fun x2 =>
  o.add x2 (.int .i64 1) fun x3 =>
  o.call (C 6 [a0, x3] H) fun x4 H5 =>
  o.call (C 13 [x4] H5) fun x6 H7 =>
  o.ext 0 x6 fun x8 =>
  o.ext 1 x6 fun x9 =>
  o.call (C 14 [x4] H7) fun x10 H11 =>
  o.ext 0 x10 fun x12 =>
  o.ext 1 x10 fun x13 =>
  o.call (C 9 [x4] H11) fun x14 H15 =>
  o.ext 0 x14 fun x16 =>
  o.ext 1 x14 fun x17 =>
  o.neq x9 (.int .i64 0) fun x18 =>
  (o.guard x18
  ((f4_j1 o K C x3 x4 x8 x12 x16 (.bool true) H15))
  (o.neq x13 (.int .i64 0) fun x145 =>
  (o.guard x145
  ((f4_j1 o K C x3 x4 x8 x12 x16 (.bool true) H15))
  (o.neq x17 (.int .i64 0) fun x146 =>
  (f4_j1 o K C x3 x4 x8 x12 x16 x146 H15))
  (none)))
  (none))
/-- parquet/parquetlaw18.PermOnes -/
def f5_l8 (o : Ops) (K : Nat) (C : CallC) (k80 : SV → SV → SV → SV → SV → SV → Heap → Rs) : SV → SV → SV → SV → SV → SV → SV → Heap → (SV → SV → SV → SV → SV → SV → SV → Heap → Rs) → Rs := fun y83 y84 y85 y86 y87 y88 y89 H90 k91 =>
  o.idx 1 y85 y88 fun x92 =>
  o.load 1 false x92 H90 fun x93 =>
  o.len x93 fun x94 =>
  o.lss y89 x94 fun x95 =>
  (o.cond x95
  (o.idx 1 y85 y88 fun x96 =>
  o.load 1 false x96 H90 fun x97 =>
  o.idx 1 x97 y89 fun x98 =>
  o.store 1 x98 (.int .i64 99) H90 fun H100 =>
  o.add y89 (.int .i64 1) fun x101 =>
  k91 y83 y84 y85 y86 y87 y88 x101 H100)
  (o.add y88 (.int .i64 1) fun x102 =>
  k80 y83 y84 y85 y86 y87 x102 H90))
def f5_j14 (o : Ops) (K : Nat) (C : CallC) (q14_2 : SV) (H14_0 : Heap) : Rs :=
  o.rest q14_2 fun r120 =>
  some (r120, H14_0)
def f5_l6 (o : Ops) (K : Nat) (C : CallC) : SV → SV → SV → SV → SV → SV → Heap → (SV → SV → SV → SV → SV → SV → Heap → Rs) → Rs := fun y73 y74 y75 y76 y77 y78 H79 k80 =>
  o.len y75 fun x81 =>
  o.lss y78 x81 fun x82 =>
  (o.cond x82
  ((o.loop7 (f5_l8 o K C k80) K y73 y74 y75 y76 y77 y78 (.int .i64 0) H79))
  (o.call (C 13 [y74] H79) fun x103 H104 =>
  o.ext 0 x103 fun x105 =>
  o.ext 1 x103 fun x106 =>
  (o.guard y77
  (o.call (C 23 [x105, y76] H104) fun x107 H108 =>
  (o.guard x107
  (o.call (C 22 [y74, y73] H108) fun x109 H110 =>
  (o.guard x109
  (o.len y73 fun x111 =>
  o.add x111 (.int .i64 1) fun x112 =>
  o.slice010 1 y74 x112 H110 fun x113 =>
  o.len y73 fun x114 =>
  o.idx 1 x113 x114 fun x115 =>
  o.load 1 false x115 H110 fun x116 =>
  o.eql x116 (.int .i64 77) fun x117 =>
  (o.guard x117
  (o.call (C 12 [] H110) fun x118 H119 =>
  (f5_j14 o K C x118 H119))
  ((f5_j14 o K C (.bool false) H110))
  (none)))
  ((f5_j14 o K C (.bool false) H110))
  (none)))
  ((f5_j14 o K C (.bool false) H108))
  (none)))
  ((f5_j14 o K C (.bool false) H104))
  (none))))
def f5_l2 (o : Ops) (K : Nat) (C : CallC) : SV → SV → SV → SV → SV → SV → SV → Heap → (SV → SV → SV → SV → SV → SV → SV → Heap → Rs) → Rs := fun y58 y59 y60 y61 y62 y63 y64 H65 k66 =>
  o.len y60 fun x67 =>
  o.lss y64 x67 fun x68 =>
  (o.cond x68
  (o.idx 1 y60 y64 fun x69 =>
  o.store 1 x69 (.int .i64 99) H65 fun H71 =>
  o.add y64 (.int .i64 1) fun x72 =>
  k66 y58 y59 y60 y61 y62 y63 x72 H71)
  ((o.loop6 (f5_l6 o K C) K y58 y59 y61 y62 y63 (.int .i64 0) H65)))
def f5_j1 (o : Ops) (K : Nat) (C : CallC) (q1_0 q1_3 q1_4 q1_8 q1_10 q1_20 : SV) (H1_0 : Heap) : Rs :=
  (o.loop7 (f5_l2 o K C) K q1_0 q1_3 q1_4 q1_8 q1_10 q1_20 (.int .i64 0) H1_0)
def f5 (o : Ops) (K : Nat) (C : CallC) (a0 : SV) (H : Heap) : Rs :=
  o.hbuild 1 [] [] [] H fun x1 H2 =>
  o.append 1 8 x1 a0 H2 fun x3 H4 =>
  o.hbuild 1 [.int .i64 0] [(0, 1)] [(.int .i64 77)] H4 fun x5 H6 =>
  o.append 1 8 x3 x5 H6 fun x7 H8 =>
  o.len a0 fun x9 =>
  o.slice010 1 x7 x9 H8 fun x10 =>
  o.call (C 8 [x10] H8) fun x11 H12 =>
  o.ext 0 x11 fun x13 =>
  o.ext 1 x11 fun x14 =>
  o.call (C 16 [a0] H12) fun x15 H16 =>
  o.ext 0 x15 fun x17 =>
  o.ext 1 x15 fun x18 =>
  o.call (C 13 [x10] H16) fun x19 H20 =>
  o.ext 0 x19 fun x21 =>
  o.ext 1 x19 fun x22 =>
  o.call (C 17 [a0] H20) fun x23 H24 =>
  o.ext 0 x23 fun x25 =>
  o.ext 1 x23 fun x26 =>
  o.call (C 14 [x10] H24) fun x27 H28 =>
  o.ext 0 x27 fun x29 =>
  o.ext 1 x27 fun x30 =>
  o.call (C 18 [a0] H28) fun x31 H32 =>
  o.ext 0 x31 fun x33 =>
  o.ext 1 x31 fun x34 =>
  o.call (C 9 [x10] H32) fun x35 H36 =>
  o.ext 0 x35 fun x37 =>
  o.ext 1 x35 fun x38 =>
  o.call (C 19 [a0] H36) fun x39 H40 =>
  o.ext 0 x39 fun x41 =>
  o.ext 1 x39 fun x42 =>
  o.call (C 20 [x10] H40) fun x43 H44 =>
  o.call (C 21 [a0] H44) fun x45 H46 =>
  o.eql x43 x45 fun x47 =>
  (o.guard x47
  (o.call (C 22 [x13, x17] H46) fun x48 H49 =>
  (o.guard x48
  (o.eql x14 x18 fun x50 =>
  (o.guard x50
  (o.call (C 23 [x21, x25] H49) fun x51 H52 =>
  (o.guard x51
  (o.eql x22 x26 fun x53 =>
  (o.guard x53
  (o.eql x29 x33 fun x54 =>
  (o.guard x54
  (o.eql x30 x34 fun x55 =>
  (o.guard x55
  (o.b_eql x37 x41 fun x56 =>
  (o.guard x56
  (o.eql x38 x42 fun x57 =>
  (f5_j1 o K C a0 x10 x13 x21 x25 x57 H52))
  ((f5_j1 o K C a0 x10 x13 x21 x25 (.bool false) H52))
  (none)))
  ((f5_j1 o K C a0 x10 x13 x21 x25 (.bool false) H52))
  (none)))
  ((f5_j1 o K C a0 x10 x13 x21 x25 (.bool false) H52))
  (none)))
  ((f5_j1 o K C a0 x10 x13 x21 x25 (.bool false) H52))
  (none)))
  ((f5_j1 o K C a0 x10 x13 x21 x25 (.bool false) H52))
  (none)))
  ((f5_j1 o K C a0 x10 x13 x21 x25 (.bool false) H49))
  (none)))
  ((f5_j1 o K C a0 x10 x13 x21 x25 (.bool false) H49))
  (none)))
  ((f5_j1 o K C a0 x10 x13 x21 x25 (.bool false) H46))
  (none))
/-- parquet/parquetlaw18.shuffled -/
def f6_j6 (o : Ops) (K : Nat) (C : CallC) (k19 : SV → SV → SV → SV → Heap → Rs) (q6_0 q6_1 q6_5 q6_7 q6_29 : SV) (H6_0 : Heap) : Rs :=
  (o.cond q6_29
  (o.idx 1 q6_0 q6_7 fun x23 =>
  o.load 1 false x23 H6_0 fun x24 =>
  o.conv .i64 x24 fun x25 =>
  o.rem x25 q6_1 fun x26 =>
  o.idx 1 q6_5 q6_7 fun x27 =>
  o.load 1 false x27 H6_0 fun x28 =>
  o.idx 1 q6_5 x26 fun x29 =>
  o.load 1 false x29 H6_0 fun x30 =>
  o.idx 1 q6_5 q6_7 fun x31 =>
  o.store 1 x31 x30 H6_0 fun H33 =>
  o.idx 1 q6_5 x26 fun x34 =>
  o.store 1 x34 x28 H33 fun H36 =>
  o.add q6_7 (.int .i64 1) fun x37 =>
  k19 q6_0 q6_1 q6_5 x37 H36)
  (o.rest q6_5 fun r38 =>
  some (r38, H6_0)))
def f6_l5 (o : Ops) (K : Nat) (C : CallC) : SV → SV → SV → SV → Heap → (SV → SV → SV → SV → Heap → Rs) → Rs := fun y14 y15 y16 y17 H18 k19 =>
  o.lss y17 y15 fun x20 =>
  (o.guard x20
  (o.len y14 fun x21 =>
  o.lss y17 x21 fun x22 =>
  (f6_j6 o K C k19 y14 y15 y16 y17 x22 H18))
  ((f6_j6 o K C k19 y14 y15 y16 y17 (.bool false) H18))
  (none))
def f6_l1 (o : Ops) (K : Nat) (C : CallC) : SV → SV → SV → SV → Heap → (SV → SV → SV → SV → Heap → Rs) → Rs := fun y3 y4 y5 y6 H7 k8 =>
  o.lss y6 y4 fun x9 =>
  (o.cond x9
  (o.idx 1 y5 y6 fun x10 =>
  o.store 1 x10 y6 H7 fun H12 =>
  o.add y6 (.int .i64 1) fun x13 =>
  k8 y3 y4 y5 x13 H12)
  ((o.loop4 (f6_l5 o K C) K y3 y4 y5 (.int .i64 0) H7)))
def f6 (o : Ops) (K : Nat) (C : CallC) (a0 a1 : SV) (H : Heap) : Rs :=
  o.make 1 8 [.int .i64 0] a1 a1 H fun x1 H2 =>
  (o.loop4 (f6_l1 o K C) K a0 a1 x1 (.int .i64 0) H2)
/-- parquet/perm.Mul -/
def f7_l3 (o : Ops) (K : Nat) (C : CallC) : SV → SV → SV → SV → SV → Heap → (SV → SV → SV → SV → SV → Heap → Rs) → Rs := fun y17 y18 y19 y20 y21 H22 k23 =>
  o.lss y21 y20 fun x24 =>
  (o.cond x24
  (o.idx 1 y19 y21 fun x25 =>
  o.load 1 false x25 H22 fun x26 =>
  o.idx 1 y17 x26 fun x27 =>
  o.load 1 false x27 H22 fun x28 =>
  o.idx 1 y18 y21 fun x29 =>
  o.store 1 x29 x28 H22 fun H31 =>
  o.add y21 (.int .i64 1) fun x32 =>
  k23 y17 y18 y19 y20 x32 H31)
  (o.rest y18 fun r33 =>
  some (.tuple [r33, (.int .i64 0)], H22)))
def f7 (o : Ops) (K : Nat) (C : CallC) (a0 a1 : SV) (H : Heap) : Rs :=
  o.hbuild 1 [.slice nilSl, .slice nilSl] [(0, 1), (1, 1)] [a0, a1] H fun x1 H2 =>
  o.call (C 24 [x1] H2) fun x3 H4 =>
  o.neq x3 (.int .i64 0) fun x5 =>
  (o.cond x5
  (o.rest x3 fun r7 =>
  some (.tuple [(.slice nilSl), r7], H4))
  (o.len a0 fun x8 =>
  o.len a1 fun x9 =>
  o.neq x8 x9 fun x10 =>
  (o.cond x10
  (some (.tuple [(.slice nilSl), (.int .i64 180)], H4))
  (o.len a0 fun x13 =>
  o.make 1 8 [.int .i64 0] x13 x13 H4 fun x14 H15 =>
  o.len a0 fun x16 =>
  (o.loop5 (f7_l3 o K C) K a1 x14 a0 x16 (.int .i64 0) H15)))))
/-- parquet/perm.Inverse -/
def f8_l2 (o : Ops) (K : Nat) (C : CallC) : SV → SV → SV → SV → Heap → (SV → SV → SV → SV → Heap → Rs) → Rs := fun y10 y11 y12 y13 H14 k15 =>
  o.lss y13 y12 fun x16 =>
  (o.cond x16
  (o.idx 1 y11 y13 fun x17 =>
  o.load 1 false x17 H14 fun x18 =>
  o.idx 1 y10 x18 fun x19 =>
  o.store 1 x19 y13 H14 fun H21 =>
  o.add y13 (.int .i64 1) fun x22 =>
  k15 y10 y11 y12 x22 H21)
  (o.rest y10 fun r23 =>
  some (.tuple [r23, (.int .i64 0)], H14)))
def f8 (o : Ops) (K : Nat) (C : CallC) (a0 : SV) (H : Heap) : Rs :=
  o.call (C 20 [a0] H) fun x1 H2 =>
  o.neq x1 (.int .i64 0) fun x3 =>
  (o.cond x3
  (o.rest x1 fun r5 =>
  some (.tuple [(.slice nilSl), r5], H2))
  (o.len a0 fun x6 =>
  o.make 1 8 [.int .i64 0] x6 x6 H2 fun x7 H8 =>
  o.len a0 fun x9 =>
  (o.loop4 (f8_l2 o K C) K x7 a0 x9 (.int .i64 0) H8)))
/-- parquet/perm.Even -/
def f9_j5 (o : Ops) (K : Nat) (C : CallC) (q5_2 q5_3 : SV) (H5_0 : Heap) : Rs :=
  o.rest q5_2 fun r23 =>
  o.rest q5_3 fun r24 =>
  some (.tuple [r23, r24], H5_0)
def f9_l1 (o : Ops) (K : Nat) (C : CallC) : SV → SV → SV → SV → SV → Heap → (SV → SV → SV → SV → SV → Heap → Rs) → Rs := fun y6 y7 y8 y9 y10 H11 k12 =>
  o.lss y10 y9 fun x13 =>
  (o.cond x13
  (o.idx 1 y8 y10 fun x14 =>
  o.load 1 false x14 H11 fun x15 =>
  o.len x15 fun x16 =>
  o.and x16 (.int .i64 1) fun x17 =>
  o.xor x17 (.int .i64 1) fun x18 =>
  o.xor y7 x18 fun x19 =>
  o.add y10 (.int .i64 1) fun x20 =>
  k12 y6 x19 y8 y9 x20 H11)
  (o.eql y6 (.int .i64 0) fun x21 =>
  (o.guard x21
  (o.eql y7 (.int .i64 0) fun x22 =>
  (f9_j5 o K C x22 y6 H11))
  ((f9_j5 o K C (.bool false) y6 H11))
  (none))))
def f9 (o : Ops) (K : Nat) (C : CallC) (a0 : SV) (H : Heap) : Rs :=
  o.call (C 13 [a0] H) fun x1 H2 =>
  o.ext 0 x1 fun x3 =>
  o.ext 1 x1 fun x4 =>
  o.len x3 fun x5 =>
  (o.loop5 (f9_l1 o K C) K x4 (.int .i64 0) x3 x5 (.int .i64 0) H2)
/-- parquet/parquetlaw18.same -/
def f10_l2 (o : Ops) (K : Nat) (C : CallC) : SV → SV → SV → Heap → (SV → SV → SV → Heap → Rs) → Rs := fun y5 y6 y7 H8 k9 =>
  o.len y5 fun x10 =>
  o.lss y7 x10 fun x11 =>
  (o.cond x11
  (o.idx 1 y5 y7 fun x12 =>
  o.load 1 false x12 H8 fun x13 =>
  o.idx 1 y6 y7 fun x14 =>
  o.load 1 false x14 H8 fun x15 =>
  o.neq x13 x15 fun x16 =>
  (o.cond x16
  (some ((.bool false), H8))
  (o.add y7 (.int .i64 1) fun x18 =>
  k9 y5 y6 x18 H8)))
  (some ((.bool true), H8)))
def f10 (o : Ops) (K : Nat) (C : CallC) (a0 a1 : SV) (H : Heap) : Rs :=
  o.len a0 fun x1 =>
  o.len a1 fun x2 =>
  o.neq x1 x2 fun x3 =>
  (o.cond x3
  (some ((.bool false), H))
  ((o.loop3 (f10_l2 o K C) K a0 a1 (.int .i64 0) H)))
/-- parquet/parquetlaw18.still -/
def f11_l1 (o : Ops) (K : Nat) (C : CallC) : SV → SV → Heap → (SV → SV → Heap → Rs) → Rs := fun y1 y2 H3 k4 =>
  o.len y1 fun x5 =>
  o.lss y2 x5 fun x6 =>
  (o.cond x6
  (o.idx 1 y1 y2 fun x7 =>
  o.load 1 false x7 H3 fun x8 =>
  o.neq x8 y2 fun x9 =>
  (o.cond x9
  (some ((.bool false), H3))
  (o.add y2 (.int .i64 1) fun x11 =>
  k4 y1 x11 H3)))
  (some ((.bool true), H3)))
def f11 (o : Ops) (K : Nat) (C : CallC) (a0 : SV) (H : Heap) : Rs :=
  (o.loop2 (f11_l1 o K C) K a0 (.int .i64 0) H)
/-- parquet/parquetlaw18.wakes -/
def f12_j1 (o : Ops) (K : Nat) (C : CallC) (q1_0 : SV) (H1_0 : Heap) : Rs :=
  o.rest q1_0 fun r42 =>
  some (r42, H1_0)
def f12 (o : Ops) (K : Nat) (C : CallC) (H : Heap) : Rs :=
  o.hbuild 1 [.int .i64 0, .int .i64 0, .int .i64 0] [(0, 1), (1, 1), (2, 1)] [(.int .i64 1), (.int .i64 2), (.int .i64 0)] H fun x1 H2 =>
  o.hbuild 1 [.int .i64 0, .int .i64 0, .int .i64 0] [(0, 1), (1, 1), (2, 1)] [(.int .i64 1), (.int .i64 0), (.int .i64 2)] H2 fun x3 H4 =>
  o.call (C 7 [x1, x3] H4) fun x5 H6 =>
  o.ext 0 x5 fun x7 =>
  o.ext 1 x5 fun x8 =>
  o.hbuild 1 [.int .i64 0, .int .i64 0, .int .i64 0, .int .i64 0, .int .i64 0] [(0, 1), (1, 1), (2, 1), (3, 1), (4, 1)] [(.int .i64 2), (.int .i64 1), (.int .i64 0), (.int .i64 4), (.int .i64 3)] H6 fun x9 H10 =>
  o.call (C 13 [x9] H10) fun x11 H12 =>
  o.ext 0 x11 fun x13 =>
  o.ext 1 x11 fun x14 =>
  o.hbuild 1 [.int .i64 0, .int .i64 0, .int .i64 0, .int .i64 0, .int .i64 0] [(0, 1), (1, 1), (2, 1), (3, 1), (4, 1)] [(.int .i64 1), (.int .i64 2), (.int .i64 0), (.int .i64 4), (.int .i64 3)] H12 fun x15 H16 =>
  o.call (C 14 [x15] H16) fun x17 H18 =>
  o.ext 0 x17 fun x19 =>
  o.ext 1 x17 fun x20 =>
  o.eql x8 (.int .i64 0) fun x21 =>
  (o.guard x21
  (o.hbuild 1 [.int .i64 0, .int .i64 0, .int .i64 0] [(0, 1), (1, 1), (2, 1)] [(.int .i64 0), (.int .i64 2), (.int .i64 1)] H18 fun x22 H23 =>
  o.call (C 22 [x7, x22] H23) fun x24 H25 =>
  (o.guard x24
  (o.eql x14 (.int .i64 0) fun x26 =>
  (o.guard x26
  (o.len x13 fun x27 =>
  o.eql x27 (.int .i64 2) fun x28 =>
  (o.guard x28
  (o.idx 1 x13 (.int .i64 1) fun x29 =>
  o.load 1 false x29 H25 fun x30 =>
  o.hbuild 1 [.int .i64 0, .int .i64 0] [(0, 1), (1, 1)] [(.int .i64 3), (.int .i64 4)] H25 fun x31 H32 =>
  o.call (C 22 [x30, x31] H32) fun x33 H34 =>
  (o.guard x33
  (o.eql x19 (.str [54]) fun x35 =>
  (o.guard x35
  (o.eql x20 (.int .i64 0) fun x36 =>
  (o.guard x36
  (o.hbuild 1 [.int .i64 0, .int .i64 0] [(0, 1), (1, 1)] [(.int .i64 0), (.int .i64 0)] H34 fun x37 H38 =>
  o.call (C 20 [x37] H38) fun x39 H40 =>
  o.eql x39 (.int .i64 180) fun x41 =>
  (f12_j1 o K C x41 H40))
  ((f12_j1 o K C (.bool false) H34))
  (none)))
  ((f12_j1 o K C (.bool false) H34))
  (none)))
  ((f12_j1 o K C (.bool false) H34))
  (none)))
  ((f12_j1 o K C (.bool false) H25))
  (none)))
  ((f12_j1 o K C (.bool false) H25))
  (none)))
  ((f12_j1 o K C (.bool false) H25))
  (none)))
  ((f12_j1 o K C (.bool false) H18))
  (none))
/-- parquet/perm.Cycles -/
def f13_j5 (o : Ops) (K : Nat) (C : CallC) (k13 : SV → SV → SV → SV → SV → Heap → Rs) (q5_0 q5_5 q5_6 q5_16 q5_17 : SV) (H5_0 : Heap) : Rs :=
  o.add q5_17 (.int .i64 1) fun x17 =>
  k13 q5_0 q5_5 q5_6 q5_16 x17 H5_0
def f13_l7 (o : Ops) (K : Nat) (C : CallC) (k13 : SV → SV → SV → SV → SV → Heap → Rs) : SV → SV → SV → SV → SV → SV → SV → Heap → (SV → SV → SV → SV → SV → SV → SV → Heap → Rs) → Rs := fun y18 y19 y20 y21 y22 y23 y24 H25 k26 =>
  o.lidx 64 1 y19 y22 fun x27 =>
  o.lloadp 1 false y19 x27 fun x28 =>
  o.u_not x28 fun x29 =>
  (o.cond x29
  (o.lidx 64 1 y19 y22 fun x30 =>
  o.bstorep 1 y19 x30 (.bool true) fun c31 =>
  o.hbuild 1 [.int .i64 0] [(0, 1)] [y22] H25 fun x32 H33 =>
  o.append 1 8 y21 x32 H33 fun x34 H35 =>
  o.idx 1 y18 y22 fun x36 =>
  o.load 1 false x36 H35 fun x37 =>
  k26 y18 (.box c31) y20 x34 x37 y23 y24 H35)
  (o.hbuild 1 [.slice nilSl] [(0, 1)] [y21] H25 fun x38 H39 =>
  o.append 1 24 y20 x38 H39 fun x40 H41 =>
  (f13_j5 o K C k13 y18 y19 x40 y23 y24 H41)))
def f13_j4 (o : Ops) (K : Nat) (C : CallC) (k13 : SV → SV → SV → SV → SV → Heap → Rs) (q4_0 q4_5 q4_6 q4_7 q4_16 q4_17 q4_30 : SV) (H4_0 : Heap) : Rs :=
  (o.cond q4_30
  ((f13_j5 o K C k13 q4_0 q4_5 q4_6 q4_16 q4_17 H4_0))
  ((o.loop7 (f13_l7 o K C k13) K q4_0 q4_5 q4_6 (.slice nilSl) q4_7 q4_16 q4_17 H4_0)))
def f13_l2 (o : Ops) (K : Nat) (C : CallC) : SV → SV → SV → SV → SV → Heap → (SV → SV → SV → SV → SV → Heap → Rs) → Rs := fun y7 y8 y9 y10 y11 H12 k13 =>
  o.lss y11 y10 fun x14 =>
  (o.cond x14
  (o.lidx 64 1 y8 y11 fun x15 =>
  o.lloadp 1 false y8 x15 fun x16 =>
  (o.guard x16
  ((f13_j4 o K C k13 y7 y8 y9 y11 y10 y11 (.bool true) H12))
  (o.idx 1 y7 y11 fun x42 =>
  o.load 1 false x42 H12 fun x43 =>
  o.eql x43 y11 fun x44 =>
  (f13_j4 o K C k13 y7 y8 y9 y11 y10 y11 x44 H12))
  (none)))
  (o.rest y9 fun r45 =>
  some (.tuple [r45, (.int .i64 0)], H12)))
def f13 (o : Ops) (K : Nat) (C : CallC) (a0 : SV) (H : Heap) : Rs :=
  o.call (C 20 [a0] H) fun x1 H2 =>
  o.neq x1 (.int .i64 0) fun x3 =>
  (o.cond x3
  (o.rest x1 fun r5 =>
  some (.tuple [(.slice nilSl), r5], H2))
  (o.len a0 fun x6 =>
  (o.loop5 (f13_l2 o K C) K a0 (.box [.bool false, .bool false, .bool false, .bool false, .bool false, .bool false, .bool false, .bool false, .bool false, .bool false, .bool false, .bool false, .bool false, .bool false, .bool false, .bool false, .bool false, .bool false, .bool false, .bool false, .bool false, .bool false, .bool false, .bool false, .bool false, .bool false, .bool false, .bool false, .bool false, .bool false, .bool false, .bool false, .bool false, .bool false, .bool false, .bool false, .bool false, .bool false, .bool false, .bool false, .bool false, .bool false, .bool false, .bool false, .bool false, .bool false, .bool false, .bool false, .bool false, .bool false, .bool false, .bool false, .bool false, .bool false, .bool false, .bool false, .bool false, .bool false, .bool false, .bool false, .bool false, .bool false, .bool false, .bool false]) (.slice nilSl) x6 (.int .i64 0) H2)))
/-- parquet/perm.Order -/
def f14_l2 (o : Ops) (K : Nat) (C : CallC) : SV → SV → SV → SV → Heap → (SV → SV → SV → SV → Heap → Rs) → Rs := fun y12 y13 y14 y15 H16 k17 =>
  o.lss y15 y14 fun x18 =>
  (o.cond x18
  (o.idx 1 y13 y15 fun x19 =>
  o.load 1 false x19 H16 fun x20 =>
  o.len x20 fun x21 =>
  o.conv .u64 x21 fun x22 =>
  o.call (C 25 [x22] H16) fun x23 H24 =>
  o.bstore 0 1 (.box [.slice nilSl]) x23 fun c25 =>
  o.lload 0 1 true (.box c25) fun x26 =>
  o.lload 0 1 true y12 fun x27 =>
  o.lload 0 1 true (.box c25) fun x28 =>
  o.call (C 27 [x27, x28] H24) fun x29 H30 =>
  o.call (C 26 [x26, x29] H30) fun x31 H32 =>
  o.ext 0 x31 fun x33 =>
  o.ext 1 x31 fun x34 =>
  o.ext 2 x31 fun x35 =>
  o.bstore 0 1 (.box [.slice nilSl]) x33 fun c36 =>
  o.bstore 0 1 (.box [.slice nilSl]) x34 fun c37 =>
  o.lload 0 1 true y12 fun x38 =>
  o.lload 0 1 true (.box c36) fun x39 =>
  o.call (C 28 [x38, x39] H32) fun x40 H41 =>
  o.ext 0 x40 fun x42 =>
  o.ext 1 x40 fun x43 =>
  o.bstore 0 1 y12 x42 fun c44 =>
  o.add y15 (.int .i64 1) fun x45 =>
  k17 (.box c44) y13 y14 x45 H41)
  (o.lload 0 1 true y12 fun x46 =>
  o.call (C 29 [x46] H16) fun x47 H48 =>
  o.rest x47 fun r49 =>
  some (.tuple [r49, (.int .i64 0)], H48)))
def f14 (o : Ops) (K : Nat) (C : CallC) (a0 : SV) (H : Heap) : Rs :=
  o.call (C 13 [a0] H) fun x1 H2 =>
  o.ext 0 x1 fun x3 =>
  o.ext 1 x1 fun x4 =>
  o.neq x4 (.int .i64 0) fun x5 =>
  (o.cond x5
  (o.rest x4 fun r7 =>
  some (.tuple [(.str []), r7], H2))
  (o.call (C 25 [(.int .u64 1)] H2) fun x8 H9 =>
  o.bstore 0 1 (.box [.slice nilSl]) x8 fun c10 =>
  o.len x3 fun x11 =>
  (o.loop4 (f14_l2 o K C) K (.box c10) x3 x11 (.int .i64 0) H9)))
/-- parquet/parquetlaw18.digits -/
def f15_l1 (o : Ops) (K : Nat) (C : CallC) : SV → SV → Heap → (SV → SV → Heap → Rs) → Rs := fun y1 y2 H3 k4 =>
  o.gtr y1 (.int .i64 0) fun x5 =>
  (o.cond x5
  (o.rem y1 (.int .i64 10) fun x6 =>
  o.add (.int .i64 48) x6 fun x7 =>
  o.conv .u8 x7 fun x8 =>
  o.hbuild 1 [.int .u8 0] [(0, 1)] [x8] H3 fun x9 H10 =>
  o.str x9 H10 fun x11 =>
  o.add x11 y2 fun x12 =>
  o.quo y1 (.int .i64 10) fun x13 =>
  k4 x13 x12 H10)
  (o.rest y2 fun r14 =>
  some (r14, H3)))
def f15 (o : Ops) (K : Nat) (C : CallC) (a0 : SV) (H : Heap) : Rs :=
  (o.loop2 (f15_l1 o K C) K a0 (.str []) H)
/-- parquet/parquetref18.Inverse -/
def f16_l2 (o : Ops) (K : Nat) (C : CallC) : SV → SV → SV → Heap → (SV → SV → SV → Heap → Rs) → Rs := fun y9 y10 y11 H12 k13 =>
  o.len y9 fun x14 =>
  o.lss y11 x14 fun x15 =>
  (o.cond x15
  (o.idx 1 y9 y11 fun x16 =>
  o.load 1 false x16 H12 fun x17 =>
  o.idx 1 y10 x17 fun x18 =>
  o.store 1 x18 y11 H12 fun H20 =>
  o.add y11 (.int .i64 1) fun x21 =>
  k13 y9 y10 x21 H20)
  (o.rest y10 fun r22 =>
  some (.tuple [r22, (.int .i64 0)], H12)))
def f16 (o : Ops) (K : Nat) (C : CallC) (a0 : SV) (H : Heap) : Rs :=
  o.call (C 21 [a0] H) fun x1 H2 =>
  o.neq x1 (.int .i64 0) fun x3 =>
  (o.cond x3
  (o.rest x1 fun r5 =>
  some (.tuple [(.slice nilSl), r5], H2))
  (o.len a0 fun x6 =>
  o.make 1 8 [.int .i64 0] x6 x6 H2 fun x7 H8 =>
  (o.loop3 (f16_l2 o K C) K a0 x7 (.int .i64 0) H8)))
/-- parquet/parquetref18.Cycles -/
def f17_j6 (o : Ops) (K : Nat) (C : CallC) (k24 : SV → SV → SV → SV → SV → SV → Heap → Rs) (q6_0 q6_5 q6_6 q6_7 q6_8 q6_9 : SV) (H6_0 : Heap) : Rs :=
  o.idx 1 q6_0 q6_9 fun x31 =>
  o.load 1 false x31 H6_0 fun x32 =>
  k24 q6_0 q6_5 q6_6 q6_7 q6_8 x32 H6_0
def f17_j10 (o : Ops) (K : Nat) (C : CallC) (k10 : SV → SV → SV → Heap → Rs) (q10_0 q10_5 q10_6 : SV) (H10_0 : Heap) : Rs :=
  o.add q10_6 (.int .i64 1) fun x39 =>
  k10 q10_0 q10_5 x39 H10_0
def f17_j9 (o : Ops) (K : Nat) (C : CallC) (k10 : SV → SV → SV → Heap → Rs) (q9_0 q9_5 q9_6 q9_7 q9_49 : SV) (H9_0 : Heap) : Rs :=
  (o.cond q9_49
  (o.hbuild 1 [.slice nilSl] [(0, 1)] [q9_7] H9_0 fun x35 H36 =>
  o.append 1 24 q9_5 x35 H36 fun x37 H38 =>
  (f17_j10 o K C k10 q9_0 x37 q9_6 H38))
  ((f17_j10 o K C k10 q9_0 q9_5 q9_6 H9_0)))
def f17_l4 (o : Ops) (K : Nat) (C : CallC) (k10 : SV → SV → SV → Heap → Rs) : SV → SV → SV → SV → SV → SV → Heap → (SV → SV → SV → SV → SV → SV → Heap → Rs) → Rs := fun y17 y18 y19 y20 y21 y22 H23 k24 =>
  o.neq y22 y19 fun x25 =>
  (o.cond x25
  (o.hbuild 1 [.int .i64 0] [(0, 1)] [y22] H23 fun x26 H27 =>
  o.append 1 8 y20 x26 H27 fun x28 H29 =>
  (o.guard y21
  (o.gtr y22 y19 fun x30 =>
  (f17_j6 o K C k24 y17 y18 y19 x28 x30 y22 H29))
  ((f17_j6 o K C k24 y17 y18 y19 x28 (.bool false) y22 H29))
  (none)))
  ((o.guard y21
  (o.len y20 fun x33 =>
  o.gtr x33 (.int .i64 1) fun x34 =>
  (f17_j9 o K C k10 y17 y18 y19 y20 x34 H23))
  ((f17_j9 o K C k10 y17 y18 y19 y20 (.bool false) H23))
  (none))))
def f17_l2 (o : Ops) (K : Nat) (C : CallC) : SV → SV → SV → Heap → (SV → SV → SV → Heap → Rs) → Rs := fun y6 y7 y8 H9 k10 =>
  o.len y6 fun x11 =>
  o.lss y8 x11 fun x12 =>
  (o.cond x12
  (o.hbuild 1 [.int .i64 0] [(0, 1)] [y8] H9 fun x13 H14 =>
  o.idx 1 y6 y8 fun x15 =>
  o.load 1 false x15 H14 fun x16 =>
  (o.loop6 (f17_l4 o K C k10) K y6 y7 y8 x13 (.bool true) x16 H14))
  (o.rest y7 fun r40 =>
  some (.tuple [r40, (.int .i64 0)], H9)))
def f17 (o : Ops) (K : Nat) (C : CallC) (a0 : SV) (H : Heap) : Rs :=
  o.call (C 21 [a0] H) fun x1 H2 =>
  o.neq x1 (.int .i64 0) fun x3 =>
  (o.cond x3
  (o.rest x1 fun r5 =>
  some (.tuple [(.slice nilSl), r5], H2))
  ((o.loop3 (f17_l2 o K C) K a0 (.slice nilSl) (.int .i64 0) H2)))
/-- parquet/parquetref18.Order -/
def f18_l2 (o : Ops) (K : Nat) (C : CallC) : SV → SV → SV → Heap → (SV → SV → SV → Heap → Rs) → Rs := fun y10 y11 y12 H13 k14 =>
  o.len y10 fun x15 =>
  o.lss y12 x15 fun x16 =>
  (o.cond x16
  (o.idx 1 y10 y12 fun x17 =>
  o.load 1 false x17 H13 fun x18 =>
  o.len x18 fun x19 =>
  o.conv .u64 x19 fun x20 =>
  o.call (C 30 [x20] H13) fun x21 H22 =>
  o.call (C 32 [y11, x21] H22) fun x23 H24 =>
  o.call (C 31 [x21, x23] H24) fun x25 H26 =>
  o.ext 0 x25 fun x27 =>
  o.ext 1 x25 fun x28 =>
  o.call (C 33 [y11, x27] H26) fun x29 H30 =>
  o.add y12 (.int .i64 1) fun x31 =>
  k14 y10 x29 x31 H30)
  (o.call (C 34 [y11] H13) fun x32 H33 =>
  o.rest x32 fun r34 =>
  some (.tuple [r34, (.int .i64 0)], H33)))
def f18 (o : Ops) (K : Nat) (C : CallC) (a0 : SV) (H : Heap) : Rs :=
  o.call (C 17 [a0] H) fun x1 H2 =>
  o.ext 0 x1 fun x3 =>
  o.ext 1 x1 fun x4 =>
  o.neq x4 (.int .i64 0) fun x5 =>
  (o.cond x5
  (o.rest x4 fun r7 =>
  some (.tuple [(.str []), r7], H2))
  (o.call (C 30 [(.int .u64 1)] H2) fun x8 H9 =>
  (o.loop3 (f18_l2 o K C) K x3 x8 (.int .i64 0) H9)))
/-- parquet/parquetref18.Even -/
def f19_j6 (o : Ops) (K : Nat) (C : CallC) (k18 : SV → SV → SV → SV → Heap → Rs) (q6_0 q6_5 q6_6 q6_7 : SV) (H6_0 : Heap) : Rs :=
  o.add q6_7 (.int .i64 1) fun x26 =>
  k18 q6_0 q6_5 q6_6 x26 H6_0
def f19_l4 (o : Ops) (K : Nat) (C : CallC) (k10 : SV → SV → SV → Heap → Rs) : SV → SV → SV → SV → Heap → (SV → SV → SV → SV → Heap → Rs) → Rs := fun y13 y14 y15 y16 H17 k18 =>
  o.lss y16 y15 fun x19 =>
  (o.cond x19
  (o.idx 1 y13 y16 fun x20 =>
  o.load 1 false x20 H17 fun x21 =>
  o.idx 1 y13 y15 fun x22 =>
  o.load 1 false x22 H17 fun x23 =>
  o.gtr x21 x23 fun x24 =>
  (o.cond x24
  (o.add y14 (.int .i64 1) fun x25 =>
  (f19_j6 o K C k18 y13 x25 y15 y16 H17))
  ((f19_j6 o K C k18 y13 y14 y15 y16 H17))))
  (o.add y15 (.int .i64 1) fun x27 =>
  k10 y13 y14 x27 H17))
def f19_l2 (o : Ops) (K : Nat) (C : CallC) : SV → SV → SV → Heap → (SV → SV → SV → Heap → Rs) → Rs := fun y6 y7 y8 H9 k10 =>
  o.len y6 fun x11 =>
  o.lss y8 x11 fun x12 =>
  (o.cond x12
  ((o.loop4 (f19_l4 o K C k10) K y6 y7 y8 (.int .i64 0) H9))
  (o.rem y7 (.int .i64 2) fun x28 =>
  o.eql x28 (.int .i64 0) fun x29 =>
  o.rest x29 fun r30 =>
  some (.tuple [r30, (.int .i64 0)], H9)))
def f19 (o : Ops) (K : Nat) (C : CallC) (a0 : SV) (H : Heap) : Rs :=
  o.call (C 21 [a0] H) fun x1 H2 =>
  o.neq x1 (.int .i64 0) fun x3 =>
  (o.cond x3
  (o.rest x1 fun r5 =>
  some (.tuple [(.bool false), r5], H2))
  ((o.loop3 (f19_l2 o K C) K a0 (.int .i64 0) (.int .i64 0) H2)))
/-- parquet/perm.Check -/
def f20_j4 (o : Ops) (K : Nat) (C : CallC) (k11 : SV → SV → SV → SV → SV → Heap → Rs) (q4_0 q4_3 q4_5 q4_9 q4_10 q4_11 q4_27 : SV) (H4_0 : Heap) : Rs :=
  (o.cond q4_27
  (some ((.int .i64 180), H4_0))
  (o.lidx 64 1 q4_3 q4_5 fun x17 =>
  o.bstorep 1 q4_3 x17 (.bool true) fun c18 =>
  o.add q4_11 (.int .i64 1) fun x19 =>
  k11 q4_0 (.box c18) q4_9 q4_10 x19 H4_0))
def f20_l2 (o : Ops) (K : Nat) (C : CallC) : SV → SV → SV → SV → SV → Heap → (SV → SV → SV → SV → SV → Heap → Rs) → Rs := fun y5 y6 y7 y8 y9 H10 k11 =>
  o.lss y9 y8 fun x12 =>
  (o.cond x12
  (o.idx 1 y7 y9 fun x13 =>
  o.load 1 false x13 H10 fun x14 =>
  o.lss x14 (.int .i64 0) fun x15 =>
  (o.guard x15
  ((f20_j4 o K C k11 y5 y6 x14 y7 y8 y9 (.bool true) H10))
  (o.len y5 fun x20 =>
  o.geq x14 x20 fun x21 =>
  (o.guard x21
  ((f20_j4 o K C k11 y5 y6 x14 y7 y8 y9 (.bool true) H10))
  (o.lidx 64 1 y6 x14 fun x22 =>
  o.lloadp 1 false y6 x22 fun x23 =>
  (f20_j4 o K C k11 y5 y6 x14 y7 y8 y9 x23 H10))
  (none)))
  (none)))
  (some ((.int .i64 0), H10)))
def f20 (o : Ops) (K : Nat) (C : CallC) (a0 : SV) (H : Heap) : Rs :=
  o.len a0 fun x1 =>
  o.gtr x1 (.int .i64 64) fun x2 =>
  (o.cond x2
  (some ((.int .i64 3), H))
  (o.len a0 fun x4 =>
  (o.loop5 (f20_l2 o K C) K a0 (.box [.bool false, .bool false, .bool false, .bool false, .bool false, .bool false, .bool false, .bool false, .bool false, .bool false, .bool false, .bool false, .bool false, .bool false, .bool false, .bool false, .bool false, .bool false, .bool false, .bool false, .bool false, .bool false, .bool false, .bool false, .bool false, .bool false, .bool false, .bool false, .bool false, .bool false, .bool false, .bool false, .bool false, .bool false, .bool false, .bool false, .bool false, .bool false, .bool false, .bool false, .bool false, .bool false, .bool false, .bool false, .bool false, .bool false, .bool false, .bool false, .bool false, .bool false, .bool false, .bool false, .bool false, .bool false, .bool false, .bool false, .bool false, .bool false, .bool false, .bool false, .bool false, .bool false, .bool false, .bool false]) a0 x4 (.int .i64 0) H)))
/-- parquet/parquetref18.Check -/
def f21_j4 (o : Ops) (K : Nat) (C : CallC) (k11 : SV → SV → SV → Heap → Rs) (q4_0 q4_3 q4_4 q4_39 : SV) (H4_0 : Heap) : Rs :=
  (o.cond q4_39
  (some ((.int .i64 180), H4_0))
  (o.idx 1 q4_0 q4_4 fun x18 =>
  o.load 1 false x18 H4_0 fun x19 =>
  o.idx 1 q4_3 x19 fun x20 =>
  o.store 1 x20 (.bool true) H4_0 fun H22 =>
  o.add q4_4 (.int .i64 1) fun x23 =>
  k11 q4_0 q4_3 x23 H22))
def f21_l2 (o : Ops) (K : Nat) (C : CallC) : SV → SV → SV → Heap → (SV → SV → SV → Heap → Rs) → Rs := fun y7 y8 y9 H10 k11 =>
  o.len y7 fun x12 =>
  o.lss y9 x12 fun x13 =>
  (o.cond x13
  (o.idx 1 y7 y9 fun x14 =>
  o.load 1 false x14 H10 fun x15 =>
  o.lss x15 (.int .i64 0) fun x16 =>
  (o.guard x16
  ((f21_j4 o K C k11 y7 y8 y9 (.bool true) H10))
  (o.idx 1 y7 y9 fun x24 =>
  o.load 1 false x24 H10 fun x25 =>
  o.len y7 fun x26 =>
  o.geq x25 x26 fun x27 =>
  (o.guard x27
  ((f21_j4 o K C k11 y7 y8 y9 (.bool true) H10))
  (o.idx 1 y7 y9 fun x28 =>
  o.load 1 false x28 H10 fun x29 =>
  o.idx 1 y8 x29 fun x30 =>
  o.load 1 false x30 H10 fun x31 =>
  (f21_j4 o K C k11 y7 y8 y9 x31 H10))
  (none)))
  (none)))
  (some ((.int .i64 0), H10)))
def f21 (o : Ops) (K : Nat) (C : CallC) (a0 : SV) (H : Heap) : Rs :=
  o.len a0 fun x1 =>
  o.gtr x1 (.int .i64 64) fun x2 =>
  (o.cond x2
  (some ((.int .i64 3), H))
  (o.len a0 fun x4 =>
  o.make 1 1 [.bool false] x4 x4 H fun x5 H6 =>
  (o.loop3 (f21_l2 o K C) K a0 x5 (.int .i64 0) H6)))
/-- parquet/parquetref18.Same -/
def f22_l2 (o : Ops) (K : Nat) (C : CallC) : SV → SV → SV → Heap → (SV → SV → SV → Heap → Rs) → Rs := fun y5 y6 y7 H8 k9 =>
  o.len y5 fun x10 =>
  o.lss y7 x10 fun x11 =>
  (o.cond x11
  (o.idx 1 y5 y7 fun x12 =>
  o.load 1 false x12 H8 fun x13 =>
  o.idx 1 y6 y7 fun x14 =>
  o.load 1 false x14 H8 fun x15 =>
  o.neq x13 x15 fun x16 =>
  (o.cond x16
  (some ((.bool false), H8))
  (o.add y7 (.int .i64 1) fun x18 =>
  k9 y5 y6 x18 H8)))
  (some ((.bool true), H8)))
def f22 (o : Ops) (K : Nat) (C : CallC) (a0 a1 : SV) (H : Heap) : Rs :=
  o.len a0 fun x1 =>
  o.len a1 fun x2 =>
  o.neq x1 x2 fun x3 =>
  (o.cond x3
  (some ((.bool false), H))
  ((o.loop3 (f22_l2 o K C) K a0 a1 (.int .i64 0) H)))
/-- parquet/parquetref18.SameAll -/
def f23_l2 (o : Ops) (K : Nat) (C : CallC) : SV → SV → SV → Heap → (SV → SV → SV → Heap → Rs) → Rs := fun y5 y6 y7 H8 k9 =>
  o.len y5 fun x10 =>
  o.lss y7 x10 fun x11 =>
  (o.cond x11
  (o.idx 1 y5 y7 fun x12 =>
  o.load 1 false x12 H8 fun x13 =>
  o.idx 1 y6 y7 fun x14 =>
  o.load 1 false x14 H8 fun x15 =>
  o.call (C 22 [x13, x15] H8) fun x16 H17 =>
  o.u_not x16 fun x18 =>
  (o.cond x18
  (some ((.bool false), H17))
  (o.add y7 (.int .i64 1) fun x20 =>
  k9 y5 y6 x20 H17)))
  (some ((.bool true), H8)))
def f23 (o : Ops) (K : Nat) (C : CallC) (a0 a1 : SV) (H : Heap) : Rs :=
  o.len a0 fun x1 =>
  o.len a1 fun x2 =>
  o.neq x1 x2 fun x3 =>
  (o.cond x3
  (some ((.bool false), H))
  ((o.loop3 (f23_l2 o K C) K a0 a1 (.int .i64 0) H)))
/-- parquet/perm.checked -/
def f24_l1 (o : Ops) (K : Nat) (C : CallC) : SV → SV → SV → Heap → (SV → SV → SV → Heap → Rs) → Rs := fun y2 y3 y4 H5 k6 =>
  o.lss y4 y3 fun x7 =>
  (o.cond x7
  (o.idx 1 y2 y4 fun x8 =>
  o.load 1 false x8 H5 fun x9 =>
  o.call (C 20 [x9] H5) fun x10 H11 =>
  o.neq x10 (.int .i64 0) fun x12 =>
  (o.cond x12
  (o.rest x10 fun r13 =>
  some (r13, H11))
  (o.add y4 (.int .i64 1) fun x14 =>
  k6 y2 y3 x14 H11)))
  (some ((.int .i64 0), H5)))
def f24 (o : Ops) (K : Nat) (C : CallC) (a0 : SV) (H : Heap) : Rs :=
  o.len a0 fun x1 =>
  (o.loop3 (f24_l1 o K C) K a0 x1 (.int .i64 0) H)
/-- parquet/nat.Of -/
def f25 (o : Ops) (K : Nat) (C : CallC) (a0 : SV) (H : Heap) : Rs :=
  o.conv .u32 a0 fun x1 =>
  o.shr a0 (.int .u64 32) fun x2 =>
  o.conv .u32 x2 fun x3 =>
  o.hbuild 1 [.int .u32 0, .int .u32 0] [(0, 1), (1, 1)] [x1, x3] H fun x4 H5 =>
  o.call (C 35 [x4] H5) fun x6 H7 =>
  o.bstore 0 1 (.box [.slice nilSl]) x6 fun c8 =>
  o.resc 1 true (.box c8) fun r9 =>
  some (r9, H7)
/-- parquet/nat.Div -/
def f26 (o : Ops) (K : Nat) (C : CallC) (a0 a1 : SV) (H : Heap) : Rs :=
  o.bbox a0 fun c1 =>
  o.bbox a1 fun c2 =>
  o.lfld 0 (.box c2) fun x3 =>
  o.lloadp 1 false (.box c2) x3 fun x4 =>
  o.len x4 fun x5 =>
  o.eql x5 (.int .i64 0) fun x6 =>
  (o.cond x6
  (o.build [.slice nilSl] [] [] fun x7 =>
  o.build [.slice nilSl] [] [] fun x8 =>
  o.bstore 0 1 (.box [.slice nilSl]) x7 fun c9 =>
  o.bstore 0 1 (.box [.slice nilSl]) x8 fun c10 =>
  o.resc 1 true (.box c9) fun r11 =>
  o.resc 1 true (.box c10) fun r12 =>
  some (.tuple [r11, r12, (.int .i64 11)], H))
  (o.lload 0 1 true (.box c1) fun x14 =>
  o.lload 0 1 true (.box c2) fun x15 =>
  o.call (C 36 [x14, x15] H) fun x16 H17 =>
  o.lss x16 (.int .i64 0) fun x18 =>
  (o.cond x18
  (o.build [.slice nilSl] [] [] fun x19 =>
  o.lload 0 1 true (.box c1) fun x20 =>
  o.bstore 0 1 (.box [.slice nilSl]) x19 fun c21 =>
  o.bstore 0 1 (.box [.slice nilSl]) x20 fun c22 =>
  o.resc 1 true (.box c21) fun r23 =>
  o.resc 1 true (.box c22) fun r24 =>
  some (.tuple [r23, r24, (.int .i64 0)], H17))
  (o.lfld 0 (.box c2) fun x26 =>
  o.lloadp 1 false (.box c2) x26 fun x27 =>
  o.len x27 fun x28 =>
  o.eql x28 (.int .i64 1) fun x29 =>
  (o.cond x29
  (o.lfld 0 (.box c1) fun x30 =>
  o.lloadp 1 false (.box c1) x30 fun x31 =>
  o.append 1 4 (.slice nilSl) x31 H17 fun x32 H33 =>
  o.lfld 0 (.box c2) fun x34 =>
  o.lloadp 1 false (.box c2) x34 fun x35 =>
  o.idx 1 x35 (.int .i64 0) fun x36 =>
  o.load 1 false x36 H33 fun x37 =>
  o.call (C 37 [x32, x37] H33) fun x38 H39 =>
  o.call (C 35 [x32] H39) fun x40 H41 =>
  o.conv .u64 x38 fun x42 =>
  o.call (C 25 [x42] H41) fun x43 H44 =>
  o.bstore 0 1 (.box [.slice nilSl]) x40 fun c45 =>
  o.bstore 0 1 (.box [.slice nilSl]) x43 fun c46 =>
  o.resc 1 true (.box c45) fun r47 =>
  o.resc 1 true (.box c46) fun r48 =>
  some (.tuple [r47, r48, (.int .i64 0)], H44))
  (o.lload 0 1 true (.box c1) fun x50 =>
  o.lload 0 1 true (.box c2) fun x51 =>
  o.call (C 38 [x50, x51] H17) fun x52 H53 =>
  o.ext 0 x52 fun x54 =>
  o.ext 1 x52 fun x55 =>
  o.bstore 0 1 (.box [.slice nilSl]) x54 fun c56 =>
  o.bstore 0 1 (.box [.slice nilSl]) x55 fun c57 =>
  o.lload 0 1 true (.box c56) fun x58 =>
  o.lload 0 1 true (.box c57) fun x59 =>
  o.bstore 0 1 (.box c56) x58 fun c60 =>
  o.bstore 0 1 (.box c57) x59 fun c61 =>
  o.resc 1 true (.box c60) fun r62 =>
  o.resc 1 true (.box c61) fun r63 =>
  some (.tuple [r62, r63, (.int .i64 0)], H53)))))))
/-- parquet/nat.Gcd -/
def f27_l1 (o : Ops) (K : Nat) (C : CallC) : SV → SV → SV → Heap → (SV → SV → SV → Heap → Rs) → Rs := fun y3 y4 y5 H6 k7 =>
  o.lfld 0 y4 fun x8 =>
  o.lloadp 1 false y4 x8 fun x9 =>
  o.len x9 fun x10 =>
  o.gtr x10 (.int .i64 0) fun x11 =>
  (o.cond x11
  (o.lload 0 1 true y3 fun x12 =>
  o.lload 0 1 true y4 fun x13 =>
  o.call (C 26 [x12, x13] H6) fun x14 H15 =>
  o.ext 0 x14 fun x16 =>
  o.ext 1 x14 fun x17 =>
  o.ext 2 x14 fun x18 =>
  o.bstore 0 1 (.box [.slice nilSl]) x16 fun c19 =>
  o.bstore 0 1 (.box [.slice nilSl]) x17 fun c20 =>
  o.lload 0 1 true y4 fun x21 =>
  o.lload 0 1 true (.box c20) fun x22 =>
  o.bstore 0 1 y3 x21 fun c23 =>
  o.bstore 0 1 y4 x22 fun c24 =>
  k7 (.box c23) (.box c24) y5 H15)
  (o.lload 0 1 true y3 fun x25 =>
  o.bstore 0 1 y5 x25 fun c26 =>
  o.resc 1 true (.box c26) fun r27 =>
  some (r27, H6)))
def f27 (o : Ops) (K : Nat) (C : CallC) (a0 a1 : SV) (H : Heap) : Rs :=
  o.bbox a0 fun c1 =>
  o.bbox a1 fun c2 =>
  (o.loop3 (f27_l1 o K C) K (.box c1) (.box c2) (.box [.slice nilSl]) H)
/-- parquet/nat.Mul -/
def f28 (o : Ops) (K : Nat) (C : CallC) (a0 a1 : SV) (H : Heap) : Rs :=
  o.bbox a0 fun c1 =>
  o.bbox a1 fun c2 =>
  o.lload 0 1 true (.box c1) fun x3 =>
  o.call (C 39 [x3] H) fun x4 H5 =>
  o.lload 0 1 true (.box c2) fun x6 =>
  o.call (C 39 [x6] H5) fun x7 H8 =>
  o.add x4 x7 fun x9 =>
  o.gtr x9 (.int .i64 4097) fun x10 =>
  (o.cond x10
  (o.build [.slice nilSl] [] [] fun x11 =>
  o.bstore 0 1 (.box [.slice nilSl]) x11 fun c12 =>
  o.resc 1 true (.box c12) fun r13 =>
  some (.tuple [r13, (.int .i64 3)], H8))
  (o.lload 0 1 true (.box c1) fun x15 =>
  o.lload 0 1 true (.box c2) fun x16 =>
  o.call (C 40 [x15, x16] H8) fun x17 H18 =>
  o.call (C 41 [x17] H18) fun x19 H20 =>
  o.ext 0 x19 fun x21 =>
  o.ext 1 x19 fun x22 =>
  o.bstore 0 1 (.box [.slice nilSl]) x21 fun c23 =>
  o.resc 1 true (.box c23) fun r24 =>
  o.rest x22 fun r25 =>
  some (.tuple [r24, r25], H20)))
/-- (parquet/nat.Nat).Text -/
def f29_j5 (o : Ops) (K : Nat) (C : CallC) (k14 : SV → SV → Heap → Rs) (k27 : SV → SV → SV → SV → Heap → Rs) (q5_3 q5_4 q5_5 q5_6 q5_34 : SV) (H5_0 : Heap) : Rs :=
  (o.cond q5_34
  (o.rem q5_5 (.int .u32 10) fun x31 =>
  o.add (.int .u32 48) x31 fun x32 =>
  o.conv .u8 x32 fun x33 =>
  o.hbuild 1 [.int .u8 0] [(0, 1)] [x33] H5_0 fun x34 H35 =>
  o.append 1 1 q5_4 x34 H35 fun x36 H37 =>
  o.quo q5_5 (.int .u32 10) fun x38 =>
  o.add q5_6 (.int .i64 1) fun x39 =>
  k27 q5_3 x36 x38 x39 H37)
  (k14 q5_3 q5_4 H5_0))
def f29_l4 (o : Ops) (K : Nat) (C : CallC) (k14 : SV → SV → Heap → Rs) : SV → SV → SV → SV → Heap → (SV → SV → SV → SV → Heap → Rs) → Rs := fun y22 y23 y24 y25 H26 k27 =>
  o.lss y25 (.int .i64 9) fun x28 =>
  (o.guard x28
  (o.len y22 fun x29 =>
  o.gtr x29 (.int .i64 0) fun x30 =>
  (o.guard x30
  ((f29_j5 o K C k14 k27 y22 y23 y24 y25 (.bool true) H26))
  (o.gtr y24 (.int .u32 0) fun x40 =>
  (f29_j5 o K C k14 k27 y22 y23 y24 y25 x40 H26))
  (none)))
  ((f29_j5 o K C k14 k27 y22 y23 y24 y25 (.bool false) H26))
  (none))
def f29_l11 (o : Ops) (K : Nat) (C : CallC) : SV → SV → SV → Heap → (SV → SV → SV → Heap → Rs) → Rs := fun y43 y44 y45 H46 k47 =>
  o.lss y44 y45 fun x48 =>
  (o.cond x48
  (o.idx 1 y43 y45 fun x49 =>
  o.load 1 false x49 H46 fun x50 =>
  o.idx 1 y43 y44 fun x51 =>
  o.load 1 false x51 H46 fun x52 =>
  o.idx 1 y43 y44 fun x53 =>
  o.store 1 x53 x50 H46 fun H55 =>
  o.idx 1 y43 y45 fun x56 =>
  o.store 1 x56 x52 H55 fun H58 =>
  o.add y44 (.int .i64 1) fun x59 =>
  o.sub y45 (.int .i64 1) fun x60 =>
  k47 y43 x59 x60 H58)
  (o.str y43 H46 fun x61 =>
  o.rest x61 fun r62 =>
  some (r62, H46)))
def f29_l2 (o : Ops) (K : Nat) (C : CallC) : SV → SV → Heap → (SV → SV → Heap → Rs) → Rs := fun y11 y12 H13 k14 =>
  o.len y11 fun x15 =>
  o.gtr x15 (.int .i64 0) fun x16 =>
  (o.cond x16
  (o.call (C 37 [y11, (.int .u32 1000000000)] H13) fun x17 H18 =>
  o.call (C 35 [y11] H18) fun x19 H20 =>
  o.fieldv 0 1 false x19 fun x21 =>
  (o.loop4 (f29_l4 o K C k14) K x21 y12 x17 (.int .i64 0) H20))
  (o.len y12 fun x41 =>
  o.sub x41 (.int .i64 1) fun x42 =>
  (o.loop3 (f29_l11 o K C) K y12 (.int .i64 0) x42 H13)))
def f29 (o : Ops) (K : Nat) (C : CallC) (a0 : SV) (H : Heap) : Rs :=
  o.bbox a0 fun c1 =>
  o.lfld 0 (.box c1) fun x2 =>
  o.lloadp 1 false (.box c1) x2 fun x3 =>
  o.len x3 fun x4 =>
  o.eql x4 (.int .i64 0) fun x5 =>
  (o.cond x5
  (some ((.str [48]), H))
  (o.lfld 0 (.box c1) fun x7 =>
  o.lloadp 1 false (.box c1) x7 fun x8 =>
  o.append 1 4 (.slice nilSl) x8 H fun x9 H10 =>
  (o.loop2 (f29_l2 o K C) K x9 (.slice nilSl) H10)))
/-- parquet/parquetref01.Of -/
def f30_l1 (o : Ops) (K : Nat) (C : CallC) : SV → SV → Heap → (SV → SV → Heap → Rs) → Rs := fun y1 y2 H3 k4 =>
  o.gtr y1 (.int .u64 0) fun x5 =>
  (o.cond x5
  (o.rem y1 (.int .u64 65536) fun x6 =>
  o.conv .u32 x6 fun x7 =>
  o.hbuild 1 [.int .u32 0] [(0, 1)] [x7] H3 fun x8 H9 =>
  o.append 1 4 y2 x8 H9 fun x10 H11 =>
  o.quo y1 (.int .u64 65536) fun x12 =>
  k4 x12 x10 H11)
  (o.rest y2 fun r13 =>
  some (r13, H3)))
def f30 (o : Ops) (K : Nat) (C : CallC) (a0 : SV) (H : Heap) : Rs :=
  (o.loop2 (f30_l1 o K C) K a0 (.slice nilSl) H)
/-- parquet/parquetref01.Div -/
def f31_j5 (o : Ops) (K : Nat) (C : CallC) (k30 : SV → SV → SV → SV → SV → SV → SV → Heap → Rs) (q5_0 q5_1 q5_6 q5_7 q5_8 q5_9 q5_10 : SV) (H5_0 : Heap) : Rs :=
  k30 q5_0 q5_1 q5_6 q5_7 q5_8 q5_9 q5_10 H5_0
def f31_l3 (o : Ops) (K : Nat) (C : CallC) (k12 : SV → SV → SV → SV → SV → Heap → Rs) : SV → SV → SV → SV → SV → SV → SV → Heap → (SV → SV → SV → SV → SV → SV → SV → Heap → Rs) → Rs := fun y22 y23 y24 y25 y26 y27 y28 H29 k30 =>
  o.sub y28 y27 fun x31 =>
  o.gtr x31 (.int .u64 1) fun x32 =>
  (o.cond x32
  (o.add y27 y28 fun x33 =>
  o.quo x33 (.int .u64 2) fun x34 =>
  o.call (C 30 [x34] H29) fun x35 H36 =>
  o.call (C 33 [x35, y23] H36) fun x37 H38 =>
  o.call (C 43 [x37, y25] H38) fun x39 H40 =>
  o.leq x39 (.int .i64 0) fun x41 =>
  (o.cond x41
  ((f31_j5 o K C k30 y22 y23 y24 y25 y26 x34 y28 H40))
  ((f31_j5 o K C k30 y22 y23 y24 y25 y26 y27 x34 H40))))
  (o.conv .u32 y27 fun x42 =>
  o.idx 1 y24 y26 fun x43 =>
  o.store 1 x43 x42 H29 fun H45 =>
  o.call (C 30 [y27] H45) fun x46 H47 =>
  o.call (C 33 [x46, y23] H47) fun x48 H49 =>
  o.call (C 44 [y25, x48] H49) fun x50 H51 =>
  o.sub y26 (.int .i64 1) fun x52 =>
  k12 y22 y23 y24 x50 x52 H51))
def f31_l1 (o : Ops) (K : Nat) (C : CallC) : SV → SV → SV → SV → SV → Heap → (SV → SV → SV → SV → SV → Heap → Rs) → Rs := fun y6 y7 y8 y9 y10 H11 k12 =>
  o.geq y10 (.int .i64 0) fun x13 =>
  (o.cond x13
  (o.idx 1 y6 y10 fun x14 =>
  o.load 1 false x14 H11 fun x15 =>
  o.hbuild 1 [.int .u32 0] [(0, 1)] [x15] H11 fun x16 H17 =>
  o.append 1 4 x16 y9 H17 fun x18 H19 =>
  o.call (C 42 [x18] H19) fun x20 H21 =>
  (o.loop7 (f31_l3 o K C k12) K y6 y7 y8 x20 y10 (.int .u64 0) (.int .u64 65536) H21))
  (o.call (C 42 [y8] H11) fun x53 H54 =>
  o.rest x53 fun r55 =>
  o.rest y9 fun r56 =>
  some (.tuple [r55, r56], H54)))
def f31 (o : Ops) (K : Nat) (C : CallC) (a0 a1 : SV) (H : Heap) : Rs :=
  o.len a0 fun x1 =>
  o.make 1 4 [.int .u32 0] x1 x1 H fun x2 H3 =>
  o.len a0 fun x4 =>
  o.sub x4 (.int .i64 1) fun x5 =>
  (o.loop5 (f31_l1 o K C) K a0 a1 x2 (.slice nilSl) x5 H3)
/-- parquet/parquetref01.Gcd -/
def f32_l1 (o : Ops) (K : Nat) (C : CallC) : SV → SV → Heap → (SV → SV → Heap → Rs) → Rs := fun y1 y2 H3 k4 =>
  o.len y2 fun x5 =>
  o.gtr x5 (.int .i64 0) fun x6 =>
  (o.cond x6
  (o.call (C 31 [y1, y2] H3) fun x7 H8 =>
  o.ext 0 x7 fun x9 =>
  o.ext 1 x7 fun x10 =>
  k4 y2 x10 H8)
  (o.rest y1 fun r11 =>
  some (r11, H3)))
def f32 (o : Ops) (K : Nat) (C : CallC) (a0 a1 : SV) (H : Heap) : Rs :=
  (o.loop2 (f32_l1 o K C) K a0 a1 H)
/-- parquet/parquetref01.Mul -/
def f33_j6 (o : Ops) (K : Nat) (C : CallC) (k21 : SV → SV → SV → SV → SV → SV → Heap → Rs) (q6_0 q6_1 q6_5 q6_6 q6_8 q6_9 : SV) (H6_0 : Heap) : Rs :=
  o.add q6_6 q6_8 fun x39 =>
  o.rem q6_9 (.int .u64 65536) fun x40 =>
  o.conv .u32 x40 fun x41 =>
  o.idx 1 q6_5 x39 fun x42 =>
  o.store 1 x42 x41 H6_0 fun H44 =>
  o.quo q6_9 (.int .u64 65536) fun x45 =>
  o.add q6_8 (.int .i64 1) fun x46 =>
  k21 q6_0 q6_1 q6_5 q6_6 x45 x46 H44
def f33_j4 (o : Ops) (K : Nat) (C : CallC) (k11 : SV → SV → SV → SV → Heap → Rs) (k21 : SV → SV → SV → SV → SV → SV → Heap → Rs) (q4_0 q4_1 q4_5 q4_6 q4_7 q4_8 q4_29 : SV) (H4_0 : Heap) : Rs :=
  (o.cond q4_29
  (o.add q4_6 q4_8 fun x24 =>
  o.idx 1 q4_5 x24 fun x25 =>
  o.load 1 false x25 H4_0 fun x26 =>
  o.conv .u64 x26 fun x27 =>
  o.add x27 q4_7 fun x28 =>
  o.len q4_1 fun x29 =>
  o.lss q4_8 x29 fun x30 =>
  (o.cond x30
  (o.idx 1 q4_0 q4_6 fun x31 =>
  o.load 1 false x31 H4_0 fun x32 =>
  o.conv .u64 x32 fun x33 =>
  o.idx 1 q4_1 q4_8 fun x34 =>
  o.load 1 false x34 H4_0 fun x35 =>
  o.conv .u64 x35 fun x36 =>
  o.mul x33 x36 fun x37 =>
  o.add x28 x37 fun x38 =>
  (f33_j6 o K C k21 q4_0 q4_1 q4_5 q4_6 q4_8 x38 H4_0))
  ((f33_j6 o K C k21 q4_0 q4_1 q4_5 q4_6 q4_8 x28 H4_0))))
  (o.add q4_6 (.int .i64 1) fun x47 =>
  k11 q4_0 q4_1 q4_5 x47 H4_0))
def f33_l3 (o : Ops) (K : Nat) (C : CallC) (k11 : SV → SV → SV → SV → Heap → Rs) : SV → SV → SV → SV → SV → SV → Heap → (SV → SV → SV → SV → SV → SV → Heap → Rs) → Rs := fun y14 y15 y16 y17 y18 y19 H20 k21 =>
  o.len y15 fun x22 =>
  o.lss y19 x22 fun x23 =>
  (o.guard x23
  ((f33_j4 o K C k11 k21 y14 y15 y16 y17 y18 y19 (.bool true) H20))
  (o.gtr y18 (.int .u64 0) fun x48 =>
  (f33_j4 o K C k11 k21 y14 y15 y16 y17 y18 y19 x48 H20))
  (none))
def f33_l1 (o : Ops) (K : Nat) (C : CallC) : SV → SV → SV → SV → Heap → (SV → SV → SV → SV → Heap → Rs) → Rs := fun y6 y7 y8 y9 H10 k11 =>
  o.len y6 fun x12 =>
  o.lss y9 x12 fun x13 =>
  (o.cond x13
  ((o.loop6 (f33_l3 o K C k11) K y6 y7 y8 y9 (.int .u64 0) (.int .i64 0) H10))
  (o.call (C 42 [y8] H10) fun x49 H50 =>
  o.rest x49 fun r51 =>
  some (r51, H50)))
def f33 (o : Ops) (K : Nat) (C : CallC) (a0 a1 : SV) (H : Heap) : Rs :=
  o.len a0 fun x1 =>
  o.len a1 fun x2 =>
  o.add x1 x2 fun x3 =>
  o.make 1 4 [.int .u32 0] x3 x3 H fun x4 H5 =>
  (o.loop4 (f33_l1 o K C) K a0 a1 x4 (.int .i64 0) H5)
/-- parquet/parquetref01.Text -/
def f34_j5 (o : Ops) (K : Nat) (C : CallC) (k7 : SV → SV → Heap → Rs) (k25 : SV → SV → SV → SV → Heap → Rs) (q5_3 q5_4 q5_6 q5_8 q5_36 : SV) (H5_0 : Heap) : Rs :=
  (o.cond q5_36
  (o.rem q5_6 (.int .u64 10) fun x29 =>
  o.add (.int .u64 48) x29 fun x30 =>
  o.conv .u8 x30 fun x31 =>
  o.hbuild 1 [.int .u8 0] [(0, 1)] [x31] H5_0 fun x32 H33 =>
  o.str x32 H33 fun x34 =>
  o.add x34 q5_3 fun x35 =>
  o.quo q5_6 (.int .u64 10) fun x36 =>
  o.add q5_8 (.int .i64 1) fun x37 =>
  k25 x35 q5_4 x36 x37 H33)
  (k7 q5_4 q5_3 H5_0))
def f34_l4 (o : Ops) (K : Nat) (C : CallC) (k7 : SV → SV → Heap → Rs) : SV → SV → SV → SV → Heap → (SV → SV → SV → SV → Heap → Rs) → Rs := fun y20 y21 y22 y23 H24 k25 =>
  o.lss y23 (.int .i64 4) fun x26 =>
  (o.guard x26
  (o.len y21 fun x27 =>
  o.gtr x27 (.int .i64 0) fun x28 =>
  (o.guard x28
  ((f34_j5 o K C k7 k25 y20 y21 y22 y23 (.bool true) H24))
  (o.gtr y22 (.int .u64 0) fun x38 =>
  (f34_j5 o K C k7 k25 y20 y21 y22 y23 x38 H24))
  (none)))
  ((f34_j5 o K C k7 k25 y20 y21 y22 y23 (.bool false) H24))
  (none))
def f34_l2 (o : Ops) (K : Nat) (C : CallC) : SV → SV → Heap → (SV → SV → Heap → Rs) → Rs := fun y4 y5 H6 k7 =>
  o.len y4 fun x8 =>
  o.gtr x8 (.int .i64 0) fun x9 =>
  (o.cond x9
  (o.call (C 30 [(.int .u64 10000)] H6) fun x10 H11 =>
  o.call (C 31 [y4, x10] H11) fun x12 H13 =>
  o.ext 0 x12 fun x14 =>
  o.ext 1 x12 fun x15 =>
  o.call (C 45 [x15] H13) fun x16 H17 =>
  o.ext 0 x16 fun x18 =>
  o.ext 1 x16 fun x19 =>
  (o.loop4 (f34_l4 o K C k7) K y5 x14 x18 (.int .i64 0) H17))
  (o.rest y5 fun r39 =>
  some (r39, H6)))
def f34 (o : Ops) (K : Nat) (C : CallC) (a0 : SV) (H : Heap) : Rs :=
  o.len a0 fun x1 =>
  o.eql x1 (.int .i64 0) fun x2 =>
  (o.cond x2
  (some ((.str [48]), H))
  ((o.loop2 (f34_l2 o K C) K a0 (.str []) H)))
/-- parquet/nat.cut -/
def f35_j2 (o : Ops) (K : Nat) (C : CallC) (k6 : SV → SV → SV → Heap → Rs) (q2_0 q2_2 q2_3 q2_15 : SV) (H2_0 : Heap) : Rs :=
  (o.cond q2_15
  (o.sub q2_3 (.int .i64 1) fun x12 =>
  k6 q2_0 q2_2 x12 H2_0)
  (o.slice011 1 q2_0 q2_3 q2_3 H2_0 fun x13 =>
  o.build [.slice nilSl] [(0, 1)] [x13] fun x14 =>
  o.bstore 0 1 q2_2 x14 fun c15 =>
  o.resc 1 true (.box c15) fun r16 =>
  some (r16, H2_0)))
def f35_l1 (o : Ops) (K : Nat) (C : CallC) : SV → SV → SV → Heap → (SV → SV → SV → Heap → Rs) → Rs := fun y2 y3 y4 H5 k6 =>
  o.gtr y4 (.int .i64 0) fun x7 =>
  (o.guard x7
  (o.sub y4 (.int .i64 1) fun x8 =>
  o.idx 1 y2 x8 fun x9 =>
  o.load 1 false x9 H5 fun x10 =>
  o.eql x10 (.int .u32 0) fun x11 =>
  (f35_j2 o K C k6 y2 y3 y4 x11 H5))
  ((f35_j2 o K C k6 y2 y3 y4 (.bool false) H5))
  (none))
def f35 (o : Ops) (K : Nat) (C : CallC) (a0 : SV) (H : Heap) : Rs :=
  o.len a0 fun x1 =>
  (o.loop3 (f35_l1 o K C) K a0 (.box [.slice nilSl]) x1 H)
/-- parquet/nat.Cmp -/
def f36_l3 (o : Ops) (K : Nat) (C : CallC) : SV → SV → SV → Heap → (SV → SV → SV → Heap → Rs) → Rs := fun y23 y24 y25 H26 k27 =>
  o.geq y25 (.int .i64 0) fun x28 =>
  (o.cond x28
  (o.lfld 0 y23 fun x29 =>
  o.lloadp 1 false y23 x29 fun x30 =>
  o.idx 1 x30 y25 fun x31 =>
  o.load 1 false x31 H26 fun x32 =>
  o.lfld 0 y24 fun x33 =>
  o.lloadp 1 false y24 x33 fun x34 =>
  o.idx 1 x34 y25 fun x35 =>
  o.load 1 false x35 H26 fun x36 =>
  o.lss x32 x36 fun x37 =>
  (o.cond x37
  (some ((.int .i64 (-1)), H26))
  (o.lfld 0 y23 fun x39 =>
  o.lloadp 1 false y23 x39 fun x40 =>
  o.idx 1 x40 y25 fun x41 =>
  o.load 1 false x41 H26 fun x42 =>
  o.lfld 0 y24 fun x43 =>
  o.lloadp 1 false y24 x43 fun x44 =>
  o.idx 1 x44 y25 fun x45 =>
  o.load 1 false x45 H26 fun x46 =>
  o.gtr x42 x46 fun x47 =>
  (o.cond x47
  (some ((.int .i64 1), H26))
  (o.sub y25 (.int .i64 1) fun x49 =>
  k27 y23 y24 x49 H26)))))
  (some ((.int .i64 0), H26)))
def f36 (o : Ops) (K : Nat) (C : CallC) (a0 a1 : SV) (H : Heap) : Rs :=
  o.bbox a0 fun c1 =>
  o.bbox a1 fun c2 =>
  o.lfld 0 (.box c1) fun x3 =>
  o.lloadp 1 false (.box c1) x3 fun x4 =>
  o.len x4 fun x5 =>
  o.lfld 0 (.box c2) fun x6 =>
  o.lloadp 1 false (.box c2) x6 fun x7 =>
  o.len x7 fun x8 =>
  o.neq x5 x8 fun x9 =>
  (o.cond x9
  (o.lfld 0 (.box c1) fun x10 =>
  o.lloadp 1 false (.box c1) x10 fun x11 =>
  o.len x11 fun x12 =>
  o.lfld 0 (.box c2) fun x13 =>
  o.lloadp 1 false (.box c2) x13 fun x14 =>
  o.len x14 fun x15 =>
  o.lss x12 x15 fun x16 =>
  (o.cond x16
  (some ((.int .i64 (-1)), H))
  (some ((.int .i64 1), H))))
  (o.lfld 0 (.box c1) fun x19 =>
  o.lloadp 1 false (.box c1) x19 fun x20 =>
  o.len x20 fun x21 =>
  o.sub x21 (.int .i64 1) fun x22 =>
  (o.loop3 (f36_l3 o K C) K (.box c1) (.box c2) x22 H)))
/-- parquet/nat.short -/
def f37_l1 (o : Ops) (K : Nat) (C : CallC) : SV → SV → SV → SV → Heap → (SV → SV → SV → SV → Heap → Rs) → Rs := fun y3 y4 y5 y6 H7 k8 =>
  o.geq y6 (.int .i64 0) fun x9 =>
  (o.cond x9
  (o.shl y5 (.int .u64 32) fun x10 =>
  o.idx 1 y3 y6 fun x11 =>
  o.load 1 false x11 H7 fun x12 =>
  o.conv .u64 x12 fun x13 =>
  o.or x10 x13 fun x14 =>
  o.conv .u64 y4 fun x15 =>
  o.quo x14 x15 fun x16 =>
  o.conv .u32 x16 fun x17 =>
  o.conv .u64 y4 fun x18 =>
  o.rem x14 x18 fun x19 =>
  o.idx 1 y3 y6 fun x20 =>
  o.store 1 x20 x17 H7 fun H22 =>
  o.sub y6 (.int .i64 1) fun x23 =>
  k8 y3 y4 x19 x23 H22)
  (o.conv .u32 y5 fun x24 =>
  o.rest x24 fun r25 =>
  some (r25, H7)))
def f37 (o : Ops) (K : Nat) (C : CallC) (a0 a1 : SV) (H : Heap) : Rs :=
  o.len a0 fun x1 =>
  o.sub x1 (.int .i64 1) fun x2 =>
  (o.loop4 (f37_l1 o K C) K a0 a1 (.int .u64 0) x2 H)
/-- parquet/nat.long -/
def f38_j7 (o : Ops) (K : Nat) (C : CallC) (k42 : SV → SV → SV → SV → SV → SV → SV → SV → Heap → Rs) (q7_4 q7_5 q7_6 q7_7 q7_8 q7_9 q7_11 q7_12 : SV) (H7_0 : Heap) : Rs :=
  o.sub q7_12 (.int .i64 1) fun x100 =>
  k42 q7_4 q7_5 q7_6 q7_7 q7_8 q7_9 q7_11 x100 H7_0
def f38_j11 (o : Ops) (K : Nat) (C : CallC) (k120 : SV → SV → SV → SV → SV → SV → SV → SV → SV → SV → SV → SV → Heap → Rs) (q11_4 q11_5 q11_6 q11_7 q11_8 q11_9 q11_11 q11_12 q11_16 q11_17 q11_18 q11_156 q11_157 : SV) (H11_0 : Heap) : Rs :=
  o.conv .u32 q11_17 fun x131 =>
  o.idx 1 q11_16 q11_18 fun x132 =>
  o.store 1 x132 x131 H11_0 fun H134 =>
  o.shr q11_17 (.int .u64 32) fun x135 =>
  o.add q11_157 (.int .i64 1) fun x136 =>
  k120 q11_4 q11_5 q11_6 q11_7 q11_8 q11_9 q11_11 q11_12 q11_16 x135 q11_156 x136 H134
def f38_l9 (o : Ops) (K : Nat) (C : CallC) (k42 : SV → SV → SV → SV → SV → SV → SV → SV → Heap → Rs) : SV → SV → SV → SV → SV → SV → SV → SV → SV → SV → SV → SV → Heap → (SV → SV → SV → SV → SV → SV → SV → SV → SV → SV → SV → SV → Heap → Rs) → Rs := fun y107 y108 y109 y110 y111 y112 y113 y114 y115 y116 y117 y118 H119 k120 =>
  o.lss y118 y117 fun x121 =>
  (o.cond x121
  (o.idx 1 y115 y118 fun x122 =>
  o.load 1 false x122 H119 fun x123 =>
  o.conv .u64 x123 fun x124 =>
  o.add y116 x124 fun x125 =>
  o.lss y118 y109 fun x126 =>
  (o.cond x126
  (o.idx 1 y111 y118 fun x127 =>
  o.load 1 false x127 H119 fun x128 =>
  o.conv .u64 x128 fun x129 =>
  o.add x125 x129 fun x130 =>
  (f38_j11 o K C k120 y107 y108 y109 y110 y111 y112 y113 y114 y115 x130 y118 y117 y118 H119))
  ((f38_j11 o K C k120 y107 y108 y109 y110 y111 y112 y113 y114 y115 x125 y118 y117 y118 H119))))
  ((f38_j7 o K C k42 y107 y108 y109 y110 y111 y112 y113 y114 H119)))
def f38_j6 (o : Ops) (K : Nat) (C : CallC) (k42 : SV → SV → SV → SV → SV → SV → SV → SV → Heap → Rs) (q6_4 q6_5 q6_6 q6_7 q6_8 q6_9 q6_11 q6_12 q6_14 : SV) (H6_0 : Heap) : Rs :=
  o.add q6_12 q6_6 fun x87 =>
  o.add x87 (.int .i64 1) fun x88 =>
  o.add q6_12 q6_6 fun x89 =>
  o.add x89 (.int .i64 1) fun x90 =>
  o.slice111 1 q6_9 q6_12 x88 x90 H6_0 fun x91 =>
  o.conv .u32 q6_14 fun x92 =>
  o.call (C 48 [x91, q6_8, x92] H6_0) fun x93 H94 =>
  o.u_not x93 fun x95 =>
  (o.cond x95
  (o.conv .u32 q6_14 fun x96 =>
  o.idx 1 q6_11 q6_12 fun x97 =>
  o.store 1 x97 x96 H94 fun H99 =>
  (f38_j7 o K C k42 q6_4 q6_5 q6_6 q6_7 q6_8 q6_9 q6_11 q6_12 H99))
  (o.conv .u32 q6_14 fun x101 =>
  o.sub x101 (.int .u32 1) fun x102 =>
  o.idx 1 q6_11 q6_12 fun x103 =>
  o.store 1 x103 x102 H94 fun H105 =>
  o.len x91 fun x106 =>
  (o.loop12 (f38_l9 o K C k42) K q6_4 q6_5 q6_6 q6_7 q6_8 q6_9 q6_11 q6_12 x91 (.int .u64 0) x106 (.int .i64 0) H105)))
def f38_j4 (o : Ops) (K : Nat) (C : CallC) (k42 : SV → SV → SV → SV → SV → SV → SV → SV → Heap → Rs) (k76 : SV → SV → SV → SV → SV → SV → SV → SV → SV → SV → Heap → Rs) (q4_4 q4_5 q4_6 q4_7 q4_8 q4_9 q4_11 q4_12 q4_14 q4_15 q4_113 : SV) (H4_0 : Heap) : Rs :=
  (o.cond q4_113
  (o.sub q4_14 (.int .u64 1) fun x79 =>
  o.sub q4_6 (.int .i64 1) fun x80 =>
  o.idx 1 q4_8 x80 fun x81 =>
  o.load 1 false x81 H4_0 fun x82 =>
  o.conv .u64 x82 fun x83 =>
  o.add q4_15 x83 fun x84 =>
  o.shr x84 (.int .u64 32) fun x85 =>
  o.neq x85 (.int .u64 0) fun x86 =>
  (o.cond x86
  ((f38_j6 o K C k42 q4_4 q4_5 q4_6 q4_7 q4_8 q4_9 q4_11 q4_12 x79 H4_0))
  (k76 q4_4 q4_5 q4_6 q4_7 q4_8 q4_9 q4_11 q4_12 x79 x84 H4_0)))
  ((f38_j6 o K C k42 q4_4 q4_5 q4_6 q4_7 q4_8 q4_9 q4_11 q4_12 q4_14 H4_0)))
def f38_l3 (o : Ops) (K : Nat) (C : CallC) (k42 : SV → SV → SV → SV → SV → SV → SV → SV → Heap → Rs) : SV → SV → SV → SV → SV → SV → SV → SV → SV → SV → Heap → (SV → SV → SV → SV → SV → SV → SV → SV → SV → SV → Heap → Rs) → Rs := fun y65 y66 y67 y68 y69 y70 y71 y72 y73 y74 H75 k76 =>
  o.shr y73 (.int .u64 32) fun x77 =>
  o.neq x77 (.int .u64 0) fun x78 =>
  (o.guard x78
  ((f38_j4 o K C k42 k76 y65 y66 y67 y68 y69 y70 y71 y72 y73 y74 (.bool true) H75))
  (o.sub y67 (.int .i64 2) fun x137 =>
  o.idx 1 y69 x137 fun x138 =>
  o.load 1 false x138 H75 fun x139 =>
  o.conv .u64 x139 fun x140 =>
  o.mul y73 x140 fun x141 =>
  o.shl y74 (.int .u64 32) fun x142 =>
  o.add y72 y67 fun x143 =>
  o.sub x143 (.int .i64 2) fun x144 =>
  o.idx 1 y70 x144 fun x145 =>
  o.load 1 false x145 H75 fun x146 =>
  o.conv .u64 x146 fun x147 =>
  o.or x142 x147 fun x148 =>
  o.gtr x141 x148 fun x149 =>
  (f38_j4 o K C k42 k76 y65 y66 y67 y68 y69 y70 y71 y72 y73 y74 x149 H75))
  (none))
def f38_l1 (o : Ops) (K : Nat) (C : CallC) : SV → SV → SV → SV → SV → SV → SV → SV → Heap → (SV → SV → SV → SV → SV → SV → SV → SV → Heap → Rs) → Rs := fun y33 y34 y35 y36 y37 y38 y39 y40 H41 k42 =>
  o.geq y40 (.int .i64 0) fun x43 =>
  (o.cond x43
  (o.add y40 y35 fun x44 =>
  o.idx 1 y38 x44 fun x45 =>
  o.load 1 false x45 H41 fun x46 =>
  o.conv .u64 x46 fun x47 =>
  o.shl x47 (.int .u64 32) fun x48 =>
  o.add y40 y35 fun x49 =>
  o.sub x49 (.int .i64 1) fun x50 =>
  o.idx 1 y38 x50 fun x51 =>
  o.load 1 false x51 H41 fun x52 =>
  o.conv .u64 x52 fun x53 =>
  o.or x48 x53 fun x54 =>
  o.sub y35 (.int .i64 1) fun x55 =>
  o.idx 1 y37 x55 fun x56 =>
  o.load 1 false x56 H41 fun x57 =>
  o.conv .u64 x57 fun x58 =>
  o.quo x54 x58 fun x59 =>
  o.sub y35 (.int .i64 1) fun x60 =>
  o.idx 1 y37 x60 fun x61 =>
  o.load 1 false x61 H41 fun x62 =>
  o.conv .u64 x62 fun x63 =>
  o.rem x54 x63 fun x64 =>
  (o.loop10 (f38_l3 o K C k42) K y33 y34 y35 y36 y37 y38 y39 y40 x59 x64 H41))
  (o.call (C 35 [y39] H41) fun x150 H151 =>
  o.call (C 49 [y38, y36] H151) fun x152 H153 =>
  o.bstore 0 1 y33 x150 fun c154 =>
  o.bstore 0 1 y34 x152 fun c155 =>
  o.resc 1 true (.box c154) fun r156 =>
  o.resc 1 true (.box c155) fun r157 =>
  some (.tuple [r156, r157], H153)))
def f38 (o : Ops) (K : Nat) (C : CallC) (a0 a1 : SV) (H : Heap) : Rs :=
  o.bbox a0 fun c1 =>
  o.bbox a1 fun c2 =>
  o.lfld 0 (.box c2) fun x3 =>
  o.lloadp 1 false (.box c2) x3 fun x4 =>
  o.len x4 fun x5 =>
  o.lfld 0 (.box c2) fun x6 =>
  o.lloadp 1 false (.box c2) x6 fun x7 =>
  o.lfld 0 (.box c2) fun x8 =>
  o.lloadp 1 false (.box c2) x8 fun x9 =>
  o.len x9 fun x10 =>
  o.sub x10 (.int .i64 1) fun x11 =>
  o.idx 1 x7 x11 fun x12 =>
  o.load 1 false x12 H fun x13 =>
  o.call (C 46 [x13] H) fun x14 H15 =>
  o.lfld 0 (.box c2) fun x16 =>
  o.lloadp 1 false (.box c2) x16 fun x17 =>
  o.call (C 47 [x17, x14, x5] H15) fun x18 H19 =>
  o.lfld 0 (.box c1) fun x20 =>
  o.lloadp 1 false (.box c1) x20 fun x21 =>
  o.lfld 0 (.box c1) fun x22 =>
  o.lloadp 1 false (.box c1) x22 fun x23 =>
  o.len x23 fun x24 =>
  o.add x24 (.int .i64 1) fun x25 =>
  o.call (C 47 [x21, x14, x25] H19) fun x26 H27 =>
  o.len x26 fun x28 =>
  o.sub x28 x5 fun x29 =>
  o.make 1 4 [.int .u32 0] x29 x29 H27 fun x30 H31 =>
  o.sub x29 (.int .i64 1) fun x32 =>
  (o.loop8 (f38_l1 o K C) K (.box [.slice nilSl]) (.box [.slice nilSl]) x5 x14 x18 x26 x30 x32 H31)
/-- (parquet/nat.Nat).Bits -/
def f39 (o : Ops) (K : Nat) (C : CallC) (a0 : SV) (H : Heap) : Rs :=
  o.bbox a0 fun c1 =>
  o.lfld 0 (.box c1) fun x2 =>
  o.lloadp 1 false (.box c1) x2 fun x3 =>
  o.len x3 fun x4 =>
  o.eql x4 (.int .i64 0) fun x5 =>
  (o.cond x5
  (some ((.int .i64 0), H))
  (o.lfld 0 (.box c1) fun x7 =>
  o.lloadp 1 false (.box c1) x7 fun x8 =>
  o.len x8 fun x9 =>
  o.sub x9 (.int .i64 1) fun x10 =>
  o.mul (.int .i64 32) x10 fun x11 =>
  o.lfld 0 (.box c1) fun x12 =>
  o.lloadp 1 false (.box c1) x12 fun x13 =>
  o.lfld 0 (.box c1) fun x14 =>
  o.lloadp 1 false (.box c1) x14 fun x15 =>
  o.len x15 fun x16 =>
  o.sub x16 (.int .i64 1) fun x17 =>
  o.idx 1 x13 x17 fun x18 =>
  o.load 1 false x18 H fun x19 =>
  o.call (C 50 [x19] H) fun x20 H21 =>
  o.add x11 x20 fun x22 =>
  o.rest x22 fun r23 =>
  some (r23, H21)))
/-- parquet/nat.product -/
def f40_l3 (o : Ops) (K : Nat) (C : CallC) (k22 : SV → SV → SV → SV → SV → SV → Heap → Rs) : SV → SV → SV → SV → SV → SV → SV → SV → SV → SV → SV → SV → Heap → (SV → SV → SV → SV → SV → SV → SV → SV → SV → SV → SV → SV → Heap → Rs) → Rs := fun y29 y30 y31 y32 y33 y34 y35 y36 y37 y38 y39 y40 H41 k42 =>
  o.lss y40 y39 fun x43 =>
  (o.cond x43
  (o.idx 1 y38 y40 fun x44 =>
  o.load 1 false x44 H41 fun x45 =>
  o.conv .u64 y33 fun x46 =>
  o.conv .u64 x45 fun x47 =>
  o.mul x46 x47 fun x48 =>
  o.add y32 y40 fun x49 =>
  o.idx 1 y31 x49 fun x50 =>
  o.load 1 false x50 H41 fun x51 =>
  o.conv .u64 x51 fun x52 =>
  o.add x48 x52 fun x53 =>
  o.add y34 x53 fun x54 =>
  o.add y32 y40 fun x55 =>
  o.conv .u32 x54 fun x56 =>
  o.idx 1 y31 x55 fun x57 =>
  o.store 1 x57 x56 H41 fun H59 =>
  o.shr x54 (.int .u64 32) fun x60 =>
  o.add y40 (.int .i64 1) fun x61 =>
  k42 y29 y30 y31 y32 y33 x60 y35 y36 y37 y38 y39 x61 H59)
  (o.lfld 0 y29 fun x62 =>
  o.lloadp 1 false y29 x62 fun x63 =>
  o.len x63 fun x64 =>
  o.add y32 x64 fun x65 =>
  o.conv .u32 y34 fun x66 =>
  o.idx 1 y31 x65 fun x67 =>
  o.store 1 x67 x66 H41 fun H69 =>
  o.add y37 (.int .i64 1) fun x70 =>
  k22 y29 y30 y31 y35 y36 x70 H69))
def f40_l1 (o : Ops) (K : Nat) (C : CallC) : SV → SV → SV → SV → SV → SV → Heap → (SV → SV → SV → SV → SV → SV → Heap → Rs) → Rs := fun y15 y16 y17 y18 y19 y20 H21 k22 =>
  o.lss y20 y19 fun x23 =>
  (o.cond x23
  (o.idx 1 y18 y20 fun x24 =>
  o.load 1 false x24 H21 fun x25 =>
  o.lfld 0 y15 fun x26 =>
  o.lloadp 1 false y15 x26 fun x27 =>
  o.len x27 fun x28 =>
  (o.loop12 (f40_l3 o K C k22) K y15 y16 y17 y20 x25 (.int .u64 0) y18 y19 y20 x27 x28 (.int .i64 0) H21))
  (o.call (C 35 [y17] H21) fun x71 H72 =>
  o.bstore 0 1 y16 x71 fun c73 =>
  o.resc 1 true (.box c73) fun r74 =>
  some (r74, H72)))
def f40 (o : Ops) (K : Nat) (C : CallC) (a0 a1 : SV) (H : Heap) : Rs :=
  o.bbox a0 fun c1 =>
  o.bbox a1 fun c2 =>
  o.lfld 0 (.box c1) fun x3 =>
  o.lloadp 1 false (.box c1) x3 fun x4 =>
  o.len x4 fun x5 =>
  o.lfld 0 (.box c2) fun x6 =>
  o.lloadp 1 false (.box c2) x6 fun x7 =>
  o.len x7 fun x8 =>
  o.add x5 x8 fun x9 =>
  o.make 1 4 [.int .u32 0] x9 x9 H fun x10 H11 =>
  o.lfld 0 (.box c1) fun x12 =>
  o.lloadp 1 false (.box c1) x12 fun x13 =>
  o.len x13 fun x14 =>
  (o.loop6 (f40_l1 o K C) K (.box c2) (.box [.slice nilSl]) x10 x13 x14 (.int .i64 0) H11)
/-- (parquet/nat.Nat).fits -/
def f41 (o : Ops) (K : Nat) (C : CallC) (a0 : SV) (H : Heap) : Rs :=
  o.bbox a0 fun c1 =>
  o.lload 0 1 true (.box c1) fun x2 =>
  o.call (C 39 [x2] H) fun x3 H4 =>
  o.gtr x3 (.int .i64 4096) fun x5 =>
  (o.cond x5
  (o.build [.slice nilSl] [] [] fun x6 =>
  o.bstore 0 1 (.box [.slice nilSl]) x6 fun c7 =>
  o.resc 1 true (.box c7) fun r8 =>
  some (.tuple [r8, (.int .i64 3)], H4))
  (o.lload 0 1 true (.box c1) fun x10 =>
  o.bstore 0 1 (.box [.slice nilSl]) x10 fun c11 =>
  o.resc 1 true (.box c11) fun r12 =>
  some (.tuple [r12, (.int .i64 0)], H4)))
/-- parquet/parquetref01.cut -/
def f42_j2 (o : Ops) (K : Nat) (C : CallC) (k5 : SV → SV → Heap → Rs) (q2_0 q2_3 q2_15 : SV) (H2_0 : Heap) : Rs :=
  (o.cond q2_15
  (o.sub q2_3 (.int .i64 1) fun x11 =>
  k5 q2_0 x11 H2_0)
  (o.slice010 1 q2_0 q2_3 H2_0 fun x12 =>
  o.rest x12 fun r13 =>
  some (r13, H2_0)))
def f42_l1 (o : Ops) (K : Nat) (C : CallC) : SV → SV → Heap → (SV → SV → Heap → Rs) → Rs := fun y2 y3 H4 k5 =>
  o.gtr y3 (.int .i64 0) fun x6 =>
  (o.guard x6
  (o.sub y3 (.int .i64 1) fun x7 =>
  o.idx 1 y2 x7 fun x8 =>
  o.load 1 false x8 H4 fun x9 =>
  o.eql x9 (.int .u32 0) fun x10 =>
  (f42_j2 o K C k5 y2 y3 x10 H4))
  ((f42_j2 o K C k5 y2 y3 (.bool false) H4))
  (none))
def f42 (o : Ops) (K : Nat) (C : CallC) (a0 : SV) (H : Heap) : Rs :=
  o.len a0 fun x1 =>
  (o.loop2 (f42_l1 o K C) K a0 x1 H)
/-- parquet/parquetref01.Cmp -/
def f43_l3 (o : Ops) (K : Nat) (C : CallC) : SV → SV → SV → Heap → (SV → SV → SV → Heap → Rs) → Rs := fun y11 y12 y13 H14 k15 =>
  o.geq y13 (.int .i64 0) fun x16 =>
  (o.cond x16
  (o.idx 1 y11 y13 fun x17 =>
  o.load 1 false x17 H14 fun x18 =>
  o.idx 1 y12 y13 fun x19 =>
  o.load 1 false x19 H14 fun x20 =>
  o.lss x18 x20 fun x21 =>
  (o.cond x21
  (some ((.int .i64 (-1)), H14))
  (o.idx 1 y11 y13 fun x23 =>
  o.load 1 false x23 H14 fun x24 =>
  o.idx 1 y12 y13 fun x25 =>
  o.load 1 false x25 H14 fun x26 =>
  o.gtr x24 x26 fun x27 =>
  (o.cond x27
  (some ((.int .i64 1), H14))
  (o.sub y13 (.int .i64 1) fun x29 =>
  k15 y11 y12 x29 H14)))))
  (some ((.int .i64 0), H14)))
def f43 (o : Ops) (K : Nat) (C : CallC) (a0 a1 : SV) (H : Heap) : Rs :=
  o.len a0 fun x1 =>
  o.len a1 fun x2 =>
  o.neq x1 x2 fun x3 =>
  (o.cond x3
  (o.len a0 fun x4 =>
  o.len a1 fun x5 =>
  o.lss x4 x5 fun x6 =>
  (o.cond x6
  (some ((.int .i64 (-1)), H))
  (some ((.int .i64 1), H))))
  (o.len a0 fun x9 =>
  o.sub x9 (.int .i64 1) fun x10 =>
  (o.loop3 (f43_l3 o K C) K a0 a1 x10 H)))
/-- parquet/parquetref01.Sub -/
def f44_j3 (o : Ops) (K : Nat) (C : CallC) (k7 : SV → SV → SV → SV → SV → Heap → Rs) (q3_0 q3_1 q3_5 q3_7 q3_8 : SV) (H3_0 : Heap) : Rs :=
  o.rem q3_8 (.int .u32 65536) fun x19 =>
  o.hbuild 1 [.int .u32 0] [(0, 1)] [x19] H3_0 fun x20 H21 =>
  o.append 1 4 q3_5 x20 H21 fun x22 H23 =>
  o.quo q3_8 (.int .u32 65536) fun x24 =>
  o.sub (.int .u32 1) x24 fun x25 =>
  o.add q3_7 (.int .i64 1) fun x26 =>
  k7 q3_0 q3_1 x22 x25 x26 H23
def f44_l1 (o : Ops) (K : Nat) (C : CallC) : SV → SV → SV → SV → SV → Heap → (SV → SV → SV → SV → SV → Heap → Rs) → Rs := fun y1 y2 y3 y4 y5 H6 k7 =>
  o.len y1 fun x8 =>
  o.lss y5 x8 fun x9 =>
  (o.cond x9
  (o.idx 1 y1 y5 fun x10 =>
  o.load 1 false x10 H6 fun x11 =>
  o.add x11 (.int .u32 65536) fun x12 =>
  o.sub x12 y4 fun x13 =>
  o.len y2 fun x14 =>
  o.lss y5 x14 fun x15 =>
  (o.cond x15
  (o.idx 1 y2 y5 fun x16 =>
  o.load 1 false x16 H6 fun x17 =>
  o.sub x13 x17 fun x18 =>
  (f44_j3 o K C k7 y1 y2 y3 y5 x18 H6))
  ((f44_j3 o K C k7 y1 y2 y3 y5 x13 H6))))
  (o.call (C 42 [y3] H6) fun x27 H28 =>
  o.rest x27 fun r29 =>
  some (r29, H28)))
def f44 (o : Ops) (K : Nat) (C : CallC) (a0 a1 : SV) (H : Heap) : Rs :=
  (o.loop5 (f44_l1 o K C) K a0 a1 (.slice nilSl) (.int .u32 0) (.int .i64 0) H)
/-- parquet/parquetref01.Small -/
def f45_l2 (o : Ops) (K : Nat) (C : CallC) : SV → SV → SV → Heap → (SV → SV → SV → Heap → Rs) → Rs := fun y7 y8 y9 H10 k11 =>
  o.geq y9 (.int .i64 0) fun x12 =>
  (o.cond x12
  (o.mul y8 (.int .u64 65536) fun x13 =>
  o.idx 1 y7 y9 fun x14 =>
  o.load 1 false x14 H10 fun x15 =>
  o.conv .u64 x15 fun x16 =>
  o.add x13 x16 fun x17 =>
  o.sub y9 (.int .i64 1) fun x18 =>
  k11 y7 x17 x18 H10)
  (o.rest y8 fun r19 =>
  some (.tuple [r19, (.bool true)], H10)))
def f45 (o : Ops) (K : Nat) (C : CallC) (a0 : SV) (H : Heap) : Rs :=
  o.len a0 fun x1 =>
  o.gtr x1 (.int .i64 4) fun x2 =>
  (o.cond x2
  (some (.tuple [(.int .u64 0), (.bool false)], H))
  (o.len a0 fun x5 =>
  o.sub x5 (.int .i64 1) fun x6 =>
  (o.loop3 (f45_l2 o K C) K a0 (.int .u64 0) x6 H)))
/-- math/bits.LeadingZeros32 -/
def f46 (o : Ops) (K : Nat) (C : CallC) (a0 : SV) (H : Heap) : Rs :=
  o.call (C 50 [a0] H) fun x1 H2 =>
  o.sub (.int .i64 32) x1 fun x3 =>
  o.rest x3 fun r4 =>
  some (r4, H2)
/-- parquet/nat.up -/
def f47_j3 (o : Ops) (K : Nat) (C : CallC) (k11 : SV → SV → SV → SV → SV → SV → Heap → Rs) (q3_0 q3_1 q3_7 q3_8 q3_9 q3_13 q3_14 : SV) (H3_0 : Heap) : Rs :=
  o.conv .u32 q3_8 fun x20 =>
  o.idx 1 q3_7 q3_9 fun x21 =>
  o.store 1 x21 x20 H3_0 fun H23 =>
  o.shr q3_8 (.int .u64 32) fun x24 =>
  o.add q3_14 (.int .i64 1) fun x25 =>
  k11 q3_0 q3_1 q3_7 x24 q3_13 x25 H23
def f47_l1 (o : Ops) (K : Nat) (C : CallC) : SV → SV → SV → SV → SV → SV → Heap → (SV → SV → SV → SV → SV → SV → Heap → Rs) → Rs := fun y4 y5 y6 y7 y8 y9 H10 k11 =>
  o.lss y9 y8 fun x12 =>
  (o.cond x12
  (o.len y4 fun x13 =>
  o.lss y9 x13 fun x14 =>
  (o.cond x14
  (o.idx 1 y4 y9 fun x15 =>
  o.load 1 false x15 H10 fun x16 =>
  o.conv .u64 x16 fun x17 =>
  o.shl x17 y5 fun x18 =>
  o.or y7 x18 fun x19 =>
  (f47_j3 o K C k11 y4 y5 y6 x19 y9 y8 y9 H10))
  ((f47_j3 o K C k11 y4 y5 y6 y7 y9 y8 y9 H10))))
  (o.rest y6 fun r26 =>
  some (r26, H10)))
def f47 (o : Ops) (K : Nat) (C : CallC) (a0 a1 a2 : SV) (H : Heap) : Rs :=
  o.make 1 4 [.int .u32 0] a2 a2 H fun x1 H2 =>
  o.len x1 fun x3 =>
  (o.loop6 (f47_l1 o K C) K a0 a1 x1 (.int .u64 0) x3 (.int .i64 0) H2)
/-- parquet/nat.away -/
def f48_j3 (o : Ops) (K : Nat) (C : CallC) (k10 : SV → SV → SV → SV → SV → SV → SV → Heap → Rs) (q3_0 q3_1 q3_2 q3_7 q3_8 q3_9 q3_11 q3_12 : SV) (H3_0 : Heap) : Rs :=
  o.idx 1 q3_0 q3_9 fun x20 =>
  o.load 1 false x20 H3_0 fun x21 =>
  o.conv .u32 q3_7 fun x22 =>
  o.call (C 51 [x21, x22, q3_8] H3_0) fun x23 H24 =>
  o.ext 0 x23 fun x25 =>
  o.ext 1 x23 fun x26 =>
  o.idx 1 q3_0 q3_9 fun x27 =>
  o.store 1 x27 x25 H24 fun H29 =>
  o.shr q3_7 (.int .u64 32) fun x30 =>
  o.add q3_12 (.int .i64 1) fun x31 =>
  k10 q3_0 q3_1 q3_2 x30 x26 q3_11 x31 H29
def f48_l1 (o : Ops) (K : Nat) (C : CallC) : SV → SV → SV → SV → SV → SV → SV → Heap → (SV → SV → SV → SV → SV → SV → SV → Heap → Rs) → Rs := fun y2 y3 y4 y5 y6 y7 y8 H9 k10 =>
  o.lss y8 y7 fun x11 =>
  (o.cond x11
  (o.len y3 fun x12 =>
  o.lss y8 x12 fun x13 =>
  (o.cond x13
  (o.idx 1 y3 y8 fun x14 =>
  o.load 1 false x14 H9 fun x15 =>
  o.conv .u64 x15 fun x16 =>
  o.conv .u64 y4 fun x17 =>
  o.mul x16 x17 fun x18 =>
  o.add y5 x18 fun x19 =>
  (f48_j3 o K C k10 y2 y3 y4 x19 y6 y8 y7 y8 H9))
  ((f48_j3 o K C k10 y2 y3 y4 y5 y6 y8 y7 y8 H9))))
  (o.neq y6 (.int .u32 0) fun x32 =>
  o.rest x32 fun r33 =>
  some (r33, H9)))
def f48 (o : Ops) (K : Nat) (C : CallC) (a0 a1 a2 : SV) (H : Heap) : Rs :=
  o.len a0 fun x1 =>
  (o.loop7 (f48_l1 o K C) K a0 a1 a2 (.int .u64 0) (.int .u32 0) x1 (.int .i64 0) H)
/-- parquet/nat.down -/
def f49_j3 (o : Ops) (K : Nat) (C : CallC) (k12 : SV → SV → SV → SV → SV → SV → Heap → Rs) (q3_0 q3_1 q3_4 q3_5 q3_6 q3_7 q3_12 q3_13 : SV) (H3_0 : Heap) : Rs :=
  o.shr q3_7 q3_1 fun x26 =>
  o.conv .u32 x26 fun x27 =>
  o.idx 1 q3_5 q3_6 fun x28 =>
  o.store 1 x28 x27 H3_0 fun H30 =>
  o.add q3_13 (.int .i64 1) fun x31 =>
  k12 q3_0 q3_1 q3_4 q3_5 q3_12 x31 H30
def f49_l1 (o : Ops) (K : Nat) (C : CallC) : SV → SV → SV → SV → SV → SV → Heap → (SV → SV → SV → SV → SV → SV → Heap → Rs) → Rs := fun y5 y6 y7 y8 y9 y10 H11 k12 =>
  o.lss y10 y9 fun x13 =>
  (o.cond x13
  (o.idx 1 y5 y10 fun x14 =>
  o.load 1 false x14 H11 fun x15 =>
  o.conv .u64 x15 fun x16 =>
  o.add y10 (.int .i64 1) fun x17 =>
  o.len y5 fun x18 =>
  o.lss x17 x18 fun x19 =>
  (o.cond x19
  (o.add y10 (.int .i64 1) fun x20 =>
  o.idx 1 y5 x20 fun x21 =>
  o.load 1 false x21 H11 fun x22 =>
  o.conv .u64 x22 fun x23 =>
  o.shl x23 (.int .u64 32) fun x24 =>
  o.or x16 x24 fun x25 =>
  (f49_j3 o K C k12 y5 y6 y7 y8 y10 x25 y9 y10 H11))
  ((f49_j3 o K C k12 y5 y6 y7 y8 y10 x16 y9 y10 H11))))
  (o.call (C 35 [y8] H11) fun x32 H33 =>
  o.bstore 0 1 y7 x32 fun c34 =>
  o.resc 1 true (.box c34) fun r35 =>
  some (r35, H33)))
def f49 (o : Ops) (K : Nat) (C : CallC) (a0 a1 : SV) (H : Heap) : Rs :=
  o.len a0 fun x1 =>
  o.make 1 4 [.int .u32 0] x1 x1 H fun x2 H3 =>
  o.len a0 fun x4 =>
  (o.loop6 (f49_l1 o K C) K a0 a1 (.box [.slice nilSl]) x2 x4 (.int .i64 0) H3)
/-- math/bits.Len32 -/
def f50_j2 (o : Ops) (K : Nat) (C : CallC) (q2_0 q2_2 : SV) (H2_0 : Heap) : Rs :=
  o.conv .u8 q2_0 fun x6 =>
  o.stridx (.str [0, 1, 2, 2, 3, 3, 3, 3, 4, 4, 4, 4, 4, 4, 4, 4, 5, 5, 5, 5, 5, 5, 5, 5, 5, 5, 5, 5, 5, 5, 5, 5, 6, 6, 6, 6, 6, 6, 6, 6, 6, 6, 6, 6, 6, 6, 6, 6, 6, 6, 6, 6, 6, 6, 6, 6, 6, 6, 6, 6, 6, 6, 6, 6, 7, 7, 7, 7, 7, 7, 7, 7, 7, 7, 7, 7, 7, 7, 7, 7, 7, 7, 7, 7, 7, 7, 7, 7, 7, 7, 7, 7, 7, 7, 7, 7, 7, 7, 7, 7, 7, 7, 7, 7, 7, 7, 7, 7, 7, 7, 7, 7, 7, 7, 7, 7, 7, 7, 7, 7, 7, 7, 7, 7, 7, 7, 7, 7, 8, 8, 8, 8, 8, 8, 8, 8, 8, 8, 8, 8, 8, 8, 8, 8, 8, 8, 8, 8, 8, 8, 8, 8, 8, 8, 8, 8, 8, 8, 8, 8, 8, 8, 8, 8, 8, 8, 8, 8, 8, 8, 8, 8, 8, 8, 8, 8, 8, 8, 8, 8, 8, 8, 8, 8, 8, 8, 8, 8, 8, 8, 8, 8, 8, 8, 8, 8, 8, 8, 8, 8, 8, 8, 8, 8, 8, 8, 8, 8, 8, 8, 8, 8, 8, 8, 8, 8, 8, 8, 8, 8, 8, 8, 8, 8, 8, 8, 8, 8, 8, 8, 8, 8, 8, 8, 8, 8, 8, 8, 8, 8, 8, 8, 8, 8, 8, 8, 8, 8, 8, 8, 8, 8, 8, 8, 8, 8]) x6 fun x7 =>
  o.conv .i64 x7 fun x8 =>
  o.add q2_2 x8 fun x9 =>
  o.rest x9 fun r10 =>
  some (r10, H2_0)
def f50_j1 (o : Ops) (K : Nat) (C : CallC) (q1_0 q1_2 : SV) (H1_0 : Heap) : Rs :=
  o.geq q1_0 (.int .u32 256) fun x3 =>
  (o.cond x3
  (o.shr q1_0 (.int .u64 8) fun x4 =>
  o.add q1_2 (.int .i64 8) fun x5 =>
  (f50_j2 o K C x4 x5 H1_0))
  ((f50_j2 o K C q1_0 q1_2 H1_0)))
def f50 (o : Ops) (K : Nat) (C : CallC) (a0 : SV) (H : Heap) : Rs :=
  o.geq a0 (.int .u32 65536) fun x1 =>
  (o.cond x1
  (o.shr a0 (.int .u64 16) fun x2 =>
  (f50_j1 o K C x2 (.int .i64 16) H))
  ((f50_j1 o K C a0 (.int .i64 0) H)))
/-- math/bits.Sub32 -/
def f51 (o : Ops) (K : Nat) (C : CallC) (a0 a1 a2 : SV) (H : Heap) : Rs :=
  o.sub a0 a1 fun x1 =>
  o.sub x1 a2 fun x2 =>
  o.u_xor a0 fun x3 =>
  o.and x3 a1 fun x4 =>
  o.xor a0 a1 fun x5 =>
  o.u_xor x5 fun x6 =>
  o.and x6 x2 fun x7 =>
  o.or x4 x7 fun x8 =>
  o.shr x8 (.int .u64 31) fun x9 =>
  o.rest x2 fun r10 =>
  o.rest x9 fun r11 =>
  some (.tuple [r10, r11], H)
end Go.Sh.Of
