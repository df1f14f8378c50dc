/- Plain forms, printed by a program. -/
import Derived.Test.YtndfkcmobpeogaaSh26
set_option linter.unusedVariables false
set_option maxRecDepth 100000
namespace Go.Sh.Of
open Go
/-- parquet/parquetlaw18.PermOrbits -/
def f3_j1 (o : Ops) (K : Nat) (C : CallC) (q1_4 : SV) (H1_0 : Heap) : Rs :=
  o.rest q1_4 fun r14 =>
  some (r14, H1_0)
def f3 (o : Ops) (K : Nat) (C : CallC) (a0 a1 : SV) (H : Heap) : Rs :=
  o.call (C 5 [a0, a1] H) fun x1 H2 =>
  o.ext 0 x1 fun x3 =>
  o.ext 1 x1 fun x4 =>
  o.call (C 6 [a0, a1] H2) fun x5 H6 =>
  o.ext 0 x5 fun x7 =>
  o.ext 1 x5 fun x8 =>
  o.call (C 7 [x3, x7] H6) fun x9 H10 =>
  (o.guard x9
  (o.eql x4 x8 fun x11 =>
  (o.guard x11
  (o.call (C 8 [] H10) fun x12 H13 =>
  (f3_j1 o K C x12 H13))
  ((f3_j1 o K C (.bool false) H10))
  (none)))
  ((f3_j1 o K C (.bool false) H10))
  (none))
/-- parquet/parquetlaw18.PermParts -/
def f4_j12 (o : Ops) (K : Nat) (C : CallC) (k51 : SV → SV → SV → SV → SV → SV → Heap → Rs) (q12_7 q12_8 q12_9 q12_11 q12_13 q12_14 q12_124 : SV) (H12_0 : Heap) : Rs :=
  (o.cond q12_124
  (some ((.bool false), H12_0))
  (o.idx 1 q12_9 q12_13 fun x68 =>
  o.load 1 false x68 H12_0 fun x69 =>
  o.idx 1 x69 q12_14 fun x70 =>
  o.load 1 false x70 H12_0 fun x71 =>
  o.idx 1 q12_11 x71 fun x72 =>
  o.store 1 x72 q12_13 H12_0 fun H74 =>
  o.add q12_14 (.int .i64 1) fun x75 =>
  k51 q12_7 q12_8 q12_9 q12_11 q12_13 x75 H74))
def f4_l10 (o : Ops) (K : Nat) (C : CallC) (k36 : SV → SV → SV → SV → SV → Heap → Rs) : SV → SV → SV → SV → SV → SV → Heap → (SV → SV → SV → SV → SV → SV → Heap → Rs) → Rs := fun y44 y45 y46 y47 y48 y49 H50 k51 =>
  o.idx 1 y46 y48 fun x52 =>
  o.load 1 false x52 H50 fun x53 =>
  o.len x53 fun x54 =>
  o.lss y49 x54 fun x55 =>
  (o.cond x55
  (o.gtr y49 (.int .i64 0) fun x56 =>
  (o.guard x56
  (o.idx 1 y46 y48 fun x57 =>
  o.load 1 false x57 H50 fun x58 =>
  o.idx 1 x58 y49 fun x59 =>
  o.load 1 false x59 H50 fun x60 =>
  o.idx 1 y46 y48 fun x61 =>
  o.load 1 false x61 H50 fun x62 =>
  o.sub y49 (.int .i64 1) fun x63 =>
  o.idx 1 x62 x63 fun x64 =>
  o.load 1 false x64 H50 fun x65 =>
  o.leq x60 x65 fun x66 =>
  (o.guard x66
  ((f4_j12 o K C k51 y44 y45 y46 y47 y48 y49 (.bool true) H50))
  (o.idx 1 y46 y48 fun x76 =>
  o.load 1 false x76 H50 fun x77 =>
  o.idx 1 x77 y49 fun x78 =>
  o.load 1 false x78 H50 fun x79 =>
  o.idx 1 y47 x79 fun x80 =>
  o.load 1 false x80 H50 fun x81 =>
  o.geq x81 (.int .i64 0) fun x82 =>
  (f4_j12 o K C k51 y44 y45 y46 y47 y48 y49 x82 H50))
  (none)))
  (o.idx 1 y46 y48 fun x83 =>
  o.load 1 false x83 H50 fun x84 =>
  o.idx 1 x84 y49 fun x85 =>
  o.load 1 false x85 H50 fun x86 =>
  o.idx 1 y47 x86 fun x87 =>
  o.load 1 false x87 H50 fun x88 =>
  o.geq x88 (.int .i64 0) fun x89 =>
  (f4_j12 o K C k51 y44 y45 y46 y47 y48 y49 x89 H50))
  (none)))
  (o.add y48 (.int .i64 1) fun x90 =>
  k36 y44 y45 y46 y47 x90 H50))
def f4_j8 (o : Ops) (K : Nat) (C : CallC) (k36 : SV → SV → SV → SV → SV → Heap → Rs) (q8_7 q8_8 q8_9 q8_11 q8_13 q8_82 : SV) (H8_0 : Heap) : Rs :=
  (o.cond q8_82
  (some ((.bool false), H8_0))
  ((o.loop6 (f4_l10 o K C k36) K q8_7 q8_8 q8_9 q8_11 q8_13 (.int .i64 0) H8_0)))
def f4_j20 (o : Ops) (K : Nat) (C : CallC) (k108 : SV → SV → SV → SV → SV → Heap → Rs) (q20_7 q20_8 q20_9 q20_11 q20_15 q20_176 : SV) (H20_0 : Heap) : Rs :=
  (o.cond q20_176
  (some ((.bool false), H20_0))
  (o.add q20_15 (.int .i64 1) fun x114 =>
  k108 q20_7 q20_8 q20_9 q20_11 x114 H20_0))
def f4_j30 (o : Ops) (K : Nat) (C : CallC) (k176 : SV → SV → SV → SV → SV → SV → SV → SV → Heap → Rs) (q30_7 q30_8 q30_9 q30_16 q30_17 q30_18 q30_19 q30_20 : SV) (H30_0 : Heap) : Rs :=
  o.add q30_20 (.int .i64 1) fun x194 =>
  k176 q30_7 q30_8 q30_9 q30_16 q30_17 q30_18 q30_19 x194 H30_0
def f4_l28 (o : Ops) (K : Nat) (C : CallC) (k164 : SV → SV → SV → SV → SV → SV → SV → Heap → Rs) : SV → SV → SV → SV → SV → SV → SV → SV → Heap → (SV → SV → SV → SV → SV → SV → SV → SV → Heap → Rs) → Rs := fun y167 y168 y169 y170 y171 y172 y173 y174 H175 k176 =>
  o.lss y174 (.int .i64 2) fun x177 =>
  (o.cond x177
  (o.idx 1 y168 y174 fun x178 =>
  o.load 1 false x178 H175 fun x179 =>
  o.idx 1 y172 y173 fun x180 =>
  o.load 1 false x180 H175 fun x181 =>
  o.idx 1 x179 x181 fun x182 =>
  o.load 1 false x182 H175 fun x183 =>
  o.idx 1 y171 x183 fun x184 =>
  o.load 1 false x184 H175 fun x185 =>
  o.eql x185 (.int .i64 0) fun x186 =>
  (o.cond x186
  (o.idx 1 y171 x183 fun x187 =>
  o.store 1 x187 (.int .i64 1) H175 fun H189 =>
  o.hbuild 1 [.int .i64 0] [(0, 1)] [x183] H189 fun x190 H191 =>
  o.append 1 8 y172 x190 H191 fun x192 H193 =>
  (f4_j30 o K C k176 y167 y168 y169 y170 y171 x192 y173 y174 H193))
  ((f4_j30 o K C k176 y167 y168 y169 y170 y171 y172 y173 y174 H175))))
  (o.add y173 (.int .i64 1) fun x195 =>
  k164 y167 y168 y169 y170 y171 y172 x195 H175))
def f4_l26 (o : Ops) (K : Nat) (C : CallC) (k138 : SV → SV → SV → SV → Heap → Rs) : SV → SV → SV → SV → SV → SV → SV → Heap → (SV → SV → SV → SV → SV → SV → SV → Heap → Rs) → Rs := fun y156 y157 y158 y159 y160 y161 y162 H163 k164 =>
  o.len y161 fun x165 =>
  o.lss y162 x165 fun x166 =>
  (o.cond x166
  ((o.loop8 (f4_l28 o K C k164) K y156 y157 y158 y159 y160 y161 y162 (.int .i64 0) H163))
  (o.len y161 fun x196 =>
  o.idx 1 y158 y159 fun x197 =>
  o.load 1 false x197 H163 fun x198 =>
  o.len x198 fun x199 =>
  o.neq x196 x199 fun x200 =>
  (o.cond x200
  (some ((.bool false), H163))
  (o.add y159 (.int .i64 1) fun x202 =>
  k138 y156 y157 y158 x202 H163))))
def f4_l24 (o : Ops) (K : Nat) (C : CallC) : SV → SV → SV → SV → Heap → (SV → SV → SV → SV → Heap → Rs) → Rs := fun y133 y134 y135 y136 H137 k138 =>
  o.len y135 fun x139 =>
  o.lss y136 x139 fun x140 =>
  (o.cond x140
  (o.make 1 8 [.int .i64 0] y133 y133 H137 fun x141 H142 =>
  o.idx 1 y135 y136 fun x143 =>
  o.load 1 false x143 H142 fun x144 =>
  o.idx 1 x144 (.int .i64 0) fun x145 =>
  o.load 1 false x145 H142 fun x146 =>
  o.idx 1 x141 x146 fun x147 =>
  o.store 1 x147 (.int .i64 1) H142 fun H149 =>
  o.idx 1 y135 y136 fun x150 =>
  o.load 1 false x150 H149 fun x151 =>
  o.idx 1 x151 (.int .i64 0) fun x152 =>
  o.load 1 false x152 H149 fun x153 =>
  o.hbuild 1 [.int .i64 0] [(0, 1)] [x153] H149 fun x154 H155 =>
  (o.loop7 (f4_l26 o K C k138) K y133 y134 y135 y136 x141 x154 (.int .i64 0) H155))
  (o.call (C 8 [] H137) fun x203 H204 =>
  o.rest x203 fun r205 =>
  some (r205, H204)))
def f4_l18 (o : Ops) (K : Nat) (C : CallC) : SV → SV → SV → SV → SV → Heap → (SV → SV → SV → SV → SV → Heap → Rs) → Rs := fun y102 y103 y104 y105 y106 H107 k108 =>
  o.lss y106 y102 fun x109 =>
  (o.cond x109
  (o.idx 1 y105 y106 fun x110 =>
  o.load 1 false x110 H107 fun x111 =>
  o.lss x111 (.int .i64 0) fun x112 =>
  (o.guard x112
  ((f4_j20 o K C k108 y102 y103 y104 y105 y106 (.bool true) H107))
  (o.idx 1 y103 (.int .i64 0) fun x115 =>
  o.load 1 false x115 H107 fun x116 =>
  o.idx 1 x116 y106 fun x117 =>
  o.load 1 false x117 H107 fun x118 =>
  o.idx 1 y105 x118 fun x119 =>
  o.load 1 false x119 H107 fun x120 =>
  o.idx 1 y105 y106 fun x121 =>
  o.load 1 false x121 H107 fun x122 =>
  o.neq x120 x122 fun x123 =>
  (o.guard x123
  ((f4_j20 o K C k108 y102 y103 y104 y105 y106 (.bool true) H107))
  (o.idx 1 y103 (.int .i64 1) fun x124 =>
  o.load 1 false x124 H107 fun x125 =>
  o.idx 1 x125 y106 fun x126 =>
  o.load 1 false x126 H107 fun x127 =>
  o.idx 1 y105 x127 fun x128 =>
  o.load 1 false x128 H107 fun x129 =>
  o.idx 1 y105 y106 fun x130 =>
  o.load 1 false x130 H107 fun x131 =>
  o.neq x129 x131 fun x132 =>
  (f4_j20 o K C k108 y102 y103 y104 y105 y106 x132 H107))
  (none)))
  (none)))
  ((o.loop4 (f4_l24 o K C) K y102 y103 y104 (.int .i64 0) H107)))
def f4_l6 (o : Ops) (K : Nat) (C : CallC) : SV → SV → SV → SV → SV → Heap → (SV → SV → SV → SV → SV → Heap → Rs) → Rs := fun y30 y31 y32 y33 y34 H35 k36 =>
  o.len y32 fun x37 =>
  o.lss y34 x37 fun x38 =>
  (o.cond x38
  (o.idx 1 y32 y34 fun x39 =>
  o.load 1 false x39 H35 fun x40 =>
  o.len x40 fun x41 =>
  o.eql x41 (.int .i64 0) fun x42 =>
  (o.guard x42
  ((f4_j8 o K C k36 y30 y31 y32 y33 y34 (.bool true) H35))
  (o.gtr y34 (.int .i64 0) fun x91 =>
  (o.guard x91
  (o.idx 1 y32 y34 fun x92 =>
  o.load 1 false x92 H35 fun x93 =>
  o.idx 1 x93 (.int .i64 0) fun x94 =>
  o.load 1 false x94 H35 fun x95 =>
  o.sub y34 (.int .i64 1) fun x96 =>
  o.idx 1 y32 x96 fun x97 =>
  o.load 1 false x97 H35 fun x98 =>
  o.idx 1 x98 (.int .i64 0) fun x99 =>
  o.load 1 false x99 H35 fun x100 =>
  o.leq x95 x100 fun x101 =>
  (f4_j8 o K C k36 y30 y31 y32 y33 y34 x101 H35))
  ((f4_j8 o K C k36 y30 y31 y32 y33 y34 (.bool false) H35))
  (none)))
  (none)))
  ((o.loop5 (f4_l18 o K C) K y30 y31 y32 y33 (.int .i64 0) H35)))
def f4_l2 (o : Ops) (K : Nat) (C : CallC) : SV → SV → SV → SV → SV → Heap → (SV → SV → SV → SV → SV → Heap → Rs) → Rs := fun y18 y19 y20 y21 y22 H23 k24 =>
  o.lss y22 y18 fun x25 =>
  (o.cond x25
  (o.idx 1 y21 y22 fun x26 =>
  o.store 1 x26 (.int .i64 (-1)) H23 fun H28 =>
  o.add y22 (.int .i64 1) fun x29 =>
  k24 y18 y19 y20 y21 x29 H28)
  ((o.loop5 (f4_l6 o K C) K y18 y19 y20 y21 (.int .i64 0) H23)))
def f4 (o : Ops) (K : Nat) (C : CallC) (a0 a1 a2 : SV) (H : Heap) : Rs :=
  o.conv .i64 a2 fun x1 =>
  o.rem x1 (.int .i64 30) fun x2 =>
  o.add x2 (.int .i64 1) fun x3 =>
  o.call (C 9 [a0, x3] H) fun x4 H5 =>
  o.call (C 9 [a1, x3] H5) fun x6 H7 =>
  o.hbuild 1 [.slice nilSl, .slice nilSl] [(0, 1), (1, 1)] [x4, x6] H7 fun x8 H9 =>
  o.call (C 5 [x3, x8] H9) fun x10 H11 =>
  o.ext 0 x10 fun x12 =>
  o.ext 1 x10 fun x13 =>
  o.neq x13 (.int .i64 0) fun x14 =>
  (o.cond x14
  (some ((.bool false), H11))
  (o.make 1 8 [.int .i64 0] x3 x3 H11 fun x16 H17 =>
  (o.loop5 (f4_l2 o K C) K x3 x8 x12 x16 (.int .i64 0) H17)))
/-- parquet/perm.Orbits -/
def f5_l17 (o : Ops) (K : Nat) (C : CallC) (k62 : SV → SV → SV → SV → SV → SV → Heap → Rs) : SV → SV → SV → SV → SV → SV → SV → SV → SV → Heap → (SV → SV → SV → SV → SV → SV → SV → SV → SV → Heap → Rs) → Rs := fun y67 y68 y69 y70 y71 y72 y73 y74 y75 H76 k77 =>
  o.lss y75 y74 fun x78 =>
  (o.cond x78
  (o.idx 1 y73 y75 fun x79 =>
  o.load 1 false x79 H76 fun x80 =>
  o.callv C [y69, y75] H76 fun x81 H82 =>
  o.callv C [y69, x80] H82 fun x83 H84 =>
  o.load 1 false y68 H84 fun x85 =>
  o.max [x81, x83] fun x86 =>
  o.min [x81, x83] fun x87 =>
  o.idx 1 x85 x86 fun x88 =>
  o.store 1 x88 x87 H84 fun H90 =>
  o.add y75 (.int .i64 1) fun x91 =>
  k77 y67 y68 y69 y70 y71 y72 y73 y74 x91 H90)
  (o.add y72 (.int .i64 1) fun x92 =>
  k62 y67 y68 y69 y70 y71 x92 H76))
def f5_j25 (o : Ops) (K : Nat) (C : CallC) (k101 : SV → SV → SV → SV → SV → Heap → Rs) (q25_11 q25_18 q25_19 q25_20 q25_21 q25_92 q25_93 : SV) (H25_0 : Heap) : Rs :=
  o.idx 1 q25_19 q25_21 fun x114 =>
  o.load 1 false x114 H25_0 fun x115 =>
  o.idx 1 q25_19 q25_21 fun x116 =>
  o.load 1 false x116 H25_0 fun x117 =>
  o.idx 1 q25_18 x117 fun x118 =>
  o.load 1 false x118 H25_0 fun x119 =>
  o.hbuild 1 [.int .i64 0] [(0, 1)] [q25_20] H25_0 fun x120 H121 =>
  o.append 1 8 x119 x120 H121 fun x122 H123 =>
  o.idx 1 q25_18 x115 fun x124 =>
  o.store 1 x124 x122 H123 fun H126 =>
  (o.same x114 H25_0 H121 ((o.same x116 H25_0 H121 ((o.same x118 H25_0 H121 ((o.same x114 H121 H123 (o.add q25_93 (.int .i64 1) fun x127 =>
  k101 q25_11 q25_18 q25_19 q25_92 x127 H126))))))))
def f5_l23 (o : Ops) (K : Nat) (C : CallC) : SV → SV → SV → SV → SV → Heap → (SV → SV → SV → SV → SV → Heap → Rs) → Rs := fun y95 y96 y97 y98 y99 H100 k101 =>
  o.lss y99 y98 fun x102 =>
  (o.cond x102
  (o.callv C [y95, y99] H100 fun x103 H104 =>
  o.eql x103 y99 fun x105 =>
  (o.cond x105
  (o.len y96 fun x106 =>
  o.idx 1 y97 y99 fun x107 =>
  o.store 1 x107 x106 H104 fun H109 =>
  o.hbuild 1 [.slice nilSl] [(0, 1)] [(.slice nilSl)] H109 fun x110 H111 =>
  o.append 1 24 y96 x110 H111 fun x112 H113 =>
  (f5_j25 o K C k101 y95 x112 y97 y99 x103 y98 y99 H113))
  ((f5_j25 o K C k101 y95 y96 y97 y99 x103 y98 y99 H104))))
  (o.call (C 12 [y96] H100) fun x128 H129 =>
  o.rest x128 fun r130 =>
  some (.tuple [r130, (.int .i64 0)], H129)))
def f5_l15 (o : Ops) (K : Nat) (C : CallC) : SV → SV → SV → SV → SV → SV → Heap → (SV → SV → SV → SV → SV → SV → Heap → Rs) → Rs := fun y55 y56 y57 y58 y59 y60 H61 k62 =>
  o.lss y60 y59 fun x63 =>
  (o.cond x63
  (o.idx 1 y58 y60 fun x64 =>
  o.load 1 false x64 H61 fun x65 =>
  o.len x65 fun x66 =>
  (o.loop9 (f5_l17 o K C k62) K y55 y56 y57 y58 y59 y60 x65 x66 (.int .i64 0) H61))
  (o.make 1 8 [.int .i64 0] y55 y55 H61 fun x93 H94 =>
  (o.loop5 (f5_l23 o K C) K y57 (.slice nilSl) x93 y55 (.int .i64 0) H94)))
def f5_l11 (o : Ops) (K : Nat) (C : CallC) : SV → SV → SV → SV → SV → Heap → (SV → SV → SV → SV → SV → Heap → Rs) → Rs := fun y40 y41 y42 y43 y44 H45 k46 =>
  o.lss y44 y43 fun x47 =>
  (o.cond x47
  (o.load 1 false y42 H45 fun x48 =>
  o.idx 1 x48 y44 fun x49 =>
  o.store 1 x49 y44 H45 fun H51 =>
  o.add y44 (.int .i64 1) fun x52 =>
  k46 y40 y41 y42 y43 x52 H51)
  (o.mkfn 11 0 [y42] fun x53 =>
  o.len y41 fun x54 =>
  (o.loop6 (f5_l15 o K C) K y40 y42 x53 y41 x54 (.int .i64 0) H45)))
def f5_l5 (o : Ops) (K : Nat) (C : CallC) : SV → SV → SV → SV → SV → Heap → (SV → SV → SV → SV → SV → Heap → Rs) → Rs := fun y12 y13 y14 y15 y16 H17 k18 =>
  o.lss y16 y15 fun x19 =>
  (o.cond x19
  (o.idx 1 y14 y16 fun x20 =>
  o.load 1 false x20 H17 fun x21 =>
  o.call (C 10 [x21] H17) fun x22 H23 =>
  o.neq x22 (.int .i64 0) fun x24 =>
  (o.cond x24
  (o.rest x22 fun r26 =>
  some (.tuple [(.slice nilSl), r26], H23))
  (o.len x21 fun x27 =>
  o.neq x27 y12 fun x28 =>
  (o.cond x28
  (some (.tuple [(.slice nilSl), (.int .i64 180)], H23))
  (o.add y16 (.int .i64 1) fun x31 =>
  k18 y12 y13 y14 y15 x31 H23)))))
  (o.make 1 8 [.int .i64 0] y12 y12 H17 fun x32 H33 =>
  o.alloc [.slice nilSl] H33 fun x34 H35 =>
  o.store 1 x34 x32 H35 fun H37 =>
  o.load 1 false x34 H37 fun x38 =>
  o.len x38 fun x39 =>
  (o.loop5 (f5_l11 o K C) K y12 y13 x34 x39 (.int .i64 0) H37)))
def f5 (o : Ops) (K : Nat) (C : CallC) (a0 a1 : SV) (H : Heap) : Rs :=
  o.lss a0 (.int .i64 0) fun x1 =>
  (o.cond x1
  (some (.tuple [(.slice nilSl), (.int .i64 2)], H))
  (o.gtr a0 (.int .i64 64) fun x4 =>
  (o.cond x4
  (some (.tuple [(.slice nilSl), (.int .i64 3)], H))
  (o.len a1 fun x7 =>
  o.gtr x7 (.int .i64 16) fun x8 =>
  (o.cond x8
  (some (.tuple [(.slice nilSl), (.int .i64 9)], H))
  (o.len a1 fun x11 =>
  (o.loop5 (f5_l5 o K C) K a0 a1 a1 x11 (.int .i64 0) H)))))))
/-- parquet/parquetref18.Orbits -/
def f6_l4 (o : Ops) (K : Nat) (C : CallC) : SV → SV → SV → Heap → (SV → SV → SV → Heap → Rs) → Rs := fun y11 y12 y13 H14 k15 =>
  o.len y12 fun x16 =>
  o.lss y13 x16 fun x17 =>
  (o.cond x17
  (o.idx 1 y12 y13 fun x18 =>
  o.load 1 false x18 H14 fun x19 =>
  o.call (C 13 [x19] H14) fun x20 H21 =>
  o.neq x20 (.int .i64 0) fun x22 =>
  (o.cond x22
  (o.rest x20 fun r24 =>
  some (.tuple [(.slice nilSl), r24], H21))
  (o.idx 1 y12 y13 fun x25 =>
  o.load 1 false x25 H21 fun x26 =>
  o.len x26 fun x27 =>
  o.neq x27 y11 fun x28 =>
  (o.cond x28
  (some (.tuple [(.slice nilSl), (.int .i64 180)], H21))
  (o.add y13 (.int .i64 1) fun x31 =>
  k15 y11 y12 x31 H21)))))
  (o.call (C 14 [y11, y12] H14) fun x32 H33 =>
  o.rest x32 fun r34 =>
  some (.tuple [r34, (.int .i64 0)], H33)))
def f6 (o : Ops) (K : Nat) (C : CallC) (a0 a1 : SV) (H : Heap) : Rs :=
  o.lss a0 (.int .i64 0) fun x1 =>
  (o.cond x1
  (some (.tuple [(.slice nilSl), (.int .i64 2)], H))
  (o.gtr a0 (.int .i64 64) fun x4 =>
  (o.cond x4
  (some (.tuple [(.slice nilSl), (.int .i64 3)], H))
  (o.len a1 fun x7 =>
  o.gtr x7 (.int .i64 16) fun x8 =>
  (o.cond x8
  (some (.tuple [(.slice nilSl), (.int .i64 9)], H))
  ((o.loop3 (f6_l4 o K C) K a0 a1 (.int .i64 0) H)))))))
/-- parquet/parquetref18.SameAll -/
def f7_l2 (o : Ops) (K : Nat) (C : CallC) : SV → SV → SV → Heap → (SV → SV → SV → Heap → Rs) → Rs := fun y5 y6 y7 H8 k9 =>
  o.len y5 fun x10 =>
  o.lss y7 x10 fun x11 =>
  (o.cond x11
  (o.idx 1 y5 y7 fun x12 =>
  o.load 1 false x12 H8 fun x13 =>
  o.idx 1 y6 y7 fun x14 =>
  o.load 1 false x14 H8 fun x15 =>
  o.call (C 15 [x13, x15] H8) fun x16 H17 =>
  o.u_not x16 fun x18 =>
  (o.cond x18
  (some ((.bool false), H17))
  (o.add y7 (.int .i64 1) fun x20 =>
  k9 y5 y6 x20 H17)))
  (some ((.bool true), H8)))
def f7 (o : Ops) (K : Nat) (C : CallC) (a0 a1 : SV) (H : Heap) : Rs :=
  o.len a0 fun x1 =>
  o.len a1 fun x2 =>
  o.neq x1 x2 fun x3 =>
  (o.cond x3
  (some ((.bool false), H))
  ((o.loop3 (f7_l2 o K C) K a0 a1 (.int .i64 0) H)))
/-- parquet/parquetlaw18.wakes -/
def f8_j1 (o : Ops) (K : Nat) (C : CallC) (q1_0 : SV) (H1_0 : Heap) : Rs :=
  o.rest q1_0 fun r42 =>
  some (r42, H1_0)
def f8 (o : Ops) (K : Nat) (C : CallC) (H : Heap) : Rs :=
  o.hbuild 1 [.int .i64 0, .int .i64 0, .int .i64 0] [(0, 1), (1, 1), (2, 1)] [(.int .i64 1), (.int .i64 2), (.int .i64 0)] H fun x1 H2 =>
  o.hbuild 1 [.int .i64 0, .int .i64 0, .int .i64 0] [(0, 1), (1, 1), (2, 1)] [(.int .i64 1), (.int .i64 0), (.int .i64 2)] H2 fun x3 H4 =>
  o.call (C 16 [x1, x3] H4) fun x5 H6 =>
  o.ext 0 x5 fun x7 =>
  o.ext 1 x5 fun x8 =>
  o.hbuild 1 [.int .i64 0, .int .i64 0, .int .i64 0, .int .i64 0, .int .i64 0] [(0, 1), (1, 1), (2, 1), (3, 1), (4, 1)] [(.int .i64 2), (.int .i64 1), (.int .i64 0), (.int .i64 4), (.int .i64 3)] H6 fun x9 H10 =>
  o.call (C 17 [x9] H10) fun x11 H12 =>
  o.ext 0 x11 fun x13 =>
  o.ext 1 x11 fun x14 =>
  o.hbuild 1 [.int .i64 0, .int .i64 0, .int .i64 0, .int .i64 0, .int .i64 0] [(0, 1), (1, 1), (2, 1), (3, 1), (4, 1)] [(.int .i64 1), (.int .i64 2), (.int .i64 0), (.int .i64 4), (.int .i64 3)] H12 fun x15 H16 =>
  o.call (C 18 [x15] H16) fun x17 H18 =>
  o.ext 0 x17 fun x19 =>
  o.ext 1 x17 fun x20 =>
  o.eql x8 (.int .i64 0) fun x21 =>
  (o.guard x21
  (o.hbuild 1 [.int .i64 0, .int .i64 0, .int .i64 0] [(0, 1), (1, 1), (2, 1)] [(.int .i64 0), (.int .i64 2), (.int .i64 1)] H18 fun x22 H23 =>
  o.call (C 15 [x7, x22] H23) fun x24 H25 =>
  (o.guard x24
  (o.eql x14 (.int .i64 0) fun x26 =>
  (o.guard x26
  (o.len x13 fun x27 =>
  o.eql x27 (.int .i64 2) fun x28 =>
  (o.guard x28
  (o.idx 1 x13 (.int .i64 1) fun x29 =>
  o.load 1 false x29 H25 fun x30 =>
  o.hbuild 1 [.int .i64 0, .int .i64 0] [(0, 1), (1, 1)] [(.int .i64 3), (.int .i64 4)] H25 fun x31 H32 =>
  o.call (C 15 [x30, x31] H32) fun x33 H34 =>
  (o.guard x33
  (o.eql x19 (.str [54]) fun x35 =>
  (o.guard x35
  (o.eql x20 (.int .i64 0) fun x36 =>
  (o.guard x36
  (o.hbuild 1 [.int .i64 0, .int .i64 0] [(0, 1), (1, 1)] [(.int .i64 0), (.int .i64 0)] H34 fun x37 H38 =>
  o.call (C 10 [x37] H38) fun x39 H40 =>
  o.eql x39 (.int .i64 180) fun x41 =>
  (f8_j1 o K C x41 H40))
  ((f8_j1 o K C (.bool false) H34))
  (none)))
  ((f8_j1 o K C (.bool false) H34))
  (none)))
  ((f8_j1 o K C (.bool false) H34))
  (none)))
  ((f8_j1 o K C (.bool false) H25))
  (none)))
  ((f8_j1 o K C (.bool false) H25))
  (none)))
  ((f8_j1 o K C (.bool false) H25))
  (none)))
  ((f8_j1 o K C (.bool false) H18))
  (none))
/-- parquet/parquetlaw18.shuffled -/
def f9_j6 (o : Ops) (K : Nat) (C : CallC) (k19 : SV → SV → SV → SV → Heap → Rs) (q6_0 q6_1 q6_5 q6_7 q6_29 : SV) (H6_0 : Heap) : Rs :=
  (o.cond q6_29
  (o.idx 1 q6_0 q6_7 fun x23 =>
  o.load 1 false x23 H6_0 fun x24 =>
  o.conv .i64 x24 fun x25 =>
  o.rem x25 q6_1 fun x26 =>
  o.idx 1 q6_5 q6_7 fun x27 =>
  o.load 1 false x27 H6_0 fun x28 =>
  o.idx 1 q6_5 x26 fun x29 =>
  o.load 1 false x29 H6_0 fun x30 =>
  o.idx 1 q6_5 q6_7 fun x31 =>
  o.store 1 x31 x30 H6_0 fun H33 =>
  o.idx 1 q6_5 x26 fun x34 =>
  o.store 1 x34 x28 H33 fun H36 =>
  o.add q6_7 (.int .i64 1) fun x37 =>
  k19 q6_0 q6_1 q6_5 x37 H36)
  (o.rest q6_5 fun r38 =>
  some (r38, H6_0)))
def f9_l5 (o : Ops) (K : Nat) (C : CallC) : SV → SV → SV → SV → Heap → (SV → SV → SV → SV → Heap → Rs) → Rs := fun y14 y15 y16 y17 H18 k19 =>
  o.lss y17 y15 fun x20 =>
  (o.guard x20
  (o.len y14 fun x21 =>
  o.lss y17 x21 fun x22 =>
  (f9_j6 o K C k19 y14 y15 y16 y17 x22 H18))
  ((f9_j6 o K C k19 y14 y15 y16 y17 (.bool false) H18))
  (none))
def f9_l1 (o : Ops) (K : Nat) (C : CallC) : SV → SV → SV → SV → Heap → (SV → SV → SV → SV → Heap → Rs) → Rs := fun y3 y4 y5 y6 H7 k8 =>
  o.lss y6 y4 fun x9 =>
  (o.cond x9
  (o.idx 1 y5 y6 fun x10 =>
  o.store 1 x10 y6 H7 fun H12 =>
  o.add y6 (.int .i64 1) fun x13 =>
  k8 y3 y4 y5 x13 H12)
  ((o.loop4 (f9_l5 o K C) K y3 y4 y5 (.int .i64 0) H7)))
def f9 (o : Ops) (K : Nat) (C : CallC) (a0 a1 : SV) (H : Heap) : Rs :=
  o.make 1 8 [.int .i64 0] a1 a1 H fun x1 H2 =>
  (o.loop4 (f9_l1 o K C) K a0 a1 x1 (.int .i64 0) H2)
/-- parquet/perm.Check -/
def f10_j4 (o : Ops) (K : Nat) (C : CallC) (k11 : SV → SV → SV → SV → SV → Heap → Rs) (q4_0 q4_3 q4_5 q4_9 q4_10 q4_11 q4_27 : SV) (H4_0 : Heap) : Rs :=
  (o.cond q4_27
  (some ((.int .i64 180), H4_0))
  (o.lidx 64 1 q4_3 q4_5 fun x17 =>
  o.bstorep 1 q4_3 x17 (.bool true) fun c18 =>
  o.add q4_11 (.int .i64 1) fun x19 =>
  k11 q4_0 (.box c18) q4_9 q4_10 x19 H4_0))
def f10_l2 (o : Ops) (K : Nat) (C : CallC) : SV → SV → SV → SV → SV → Heap → (SV → SV → SV → SV → SV → Heap → Rs) → Rs := fun y5 y6 y7 y8 y9 H10 k11 =>
  o.lss y9 y8 fun x12 =>
  (o.cond x12
  (o.idx 1 y7 y9 fun x13 =>
  o.load 1 false x13 H10 fun x14 =>
  o.lss x14 (.int .i64 0) fun x15 =>
  (o.guard x15
  ((f10_j4 o K C k11 y5 y6 x14 y7 y8 y9 (.bool true) H10))
  (o.len y5 fun x20 =>
  o.geq x14 x20 fun x21 =>
  (o.guard x21
  ((f10_j4 o K C k11 y5 y6 x14 y7 y8 y9 (.bool true) H10))
  (o.lidx 64 1 y6 x14 fun x22 =>
  o.lloadp 1 false y6 x22 fun x23 =>
  (f10_j4 o K C k11 y5 y6 x14 y7 y8 y9 x23 H10))
  (none)))
  (none)))
  (some ((.int .i64 0), H10)))
def f10 (o : Ops) (K : Nat) (C : CallC) (a0 : SV) (H : Heap) : Rs :=
  o.len a0 fun x1 =>
  o.gtr x1 (.int .i64 64) fun x2 =>
  (o.cond x2
  (some ((.int .i64 3), H))
  (o.len a0 fun x4 =>
  (o.loop5 (f10_l2 o K C) K a0 (.box [.bool false, .bool false, .bool false, .bool false, .bool false, .bool false, .bool false, .bool false, .bool false, .bool false, .bool false, .bool false, .bool false, .bool false, .bool false, .bool false, .bool false, .bool false, .bool false, .bool false, .bool false, .bool false, .bool false, .bool false, .bool false, .bool false, .bool false, .bool false, .bool false, .bool false, .bool false, .bool false, .bool false, .bool false, .bool false, .bool false, .bool false, .bool false, .bool false, .bool false, .bool false, .bool false, .bool false, .bool false, .bool false, .bool false, .bool false, .bool false, .bool false, .bool false, .bool false, .bool false, .bool false, .bool false, .bool false, .bool false, .bool false, .bool false, .bool false, .bool false, .bool false, .bool false, .bool false, .bool false]) a0 x4 (.int .i64 0) H)))
/-- parquet/perm.Orbits$1 -/
def f11_l1 (o : Ops) (K : Nat) (C : CallC) : SV → SV → Heap → (SV → SV → Heap → Rs) → Rs := fun y1 y2 H3 k4 =>
  o.load 1 false y2 H3 fun x5 =>
  o.idx 1 x5 y1 fun x6 =>
  o.load 1 false x6 H3 fun x7 =>
  o.neq x7 y1 fun x8 =>
  (o.cond x8
  (o.load 1 false y2 H3 fun x9 =>
  o.load 1 false y2 H3 fun x10 =>
  o.load 1 false y2 H3 fun x11 =>
  o.idx 1 x11 y1 fun x12 =>
  o.load 1 false x12 H3 fun x13 =>
  o.idx 1 x10 x13 fun x14 =>
  o.load 1 false x14 H3 fun x15 =>
  o.idx 1 x9 y1 fun x16 =>
  o.store 1 x16 x15 H3 fun H18 =>
  o.load 1 false y2 H18 fun x19 =>
  o.idx 1 x19 y1 fun x20 =>
  o.load 1 false x20 H18 fun x21 =>
  k4 x21 y2 H18)
  (o.rest y1 fun r22 =>
  some (r22, H3)))
def f11 (o : Ops) (K : Nat) (C : CallC) (a0 a1 : SV) (H : Heap) : Rs :=
  (o.loop2 (f11_l1 o K C) K a0 a1 H)
/-- slices.Clip[[][]int,[]int] -/
def f12 (o : Ops) (K : Nat) (C : CallC) (a0 : SV) (H : Heap) : Rs :=
  o.len a0 fun x1 =>
  o.len a0 fun x2 =>
  o.slice011 1 a0 x1 x2 H fun x3 =>
  o.rest x3 fun r4 =>
  some (r4, H)
/-- parquet/parquetref18.Check -/
def f13_j4 (o : Ops) (K : Nat) (C : CallC) (k11 : SV → SV → SV → Heap → Rs) (q4_0 q4_3 q4_4 q4_39 : SV) (H4_0 : Heap) : Rs :=
  (o.cond q4_39
  (some ((.int .i64 180), H4_0))
  (o.idx 1 q4_0 q4_4 fun x18 =>
  o.load 1 false x18 H4_0 fun x19 =>
  o.idx 1 q4_3 x19 fun x20 =>
  o.store 1 x20 (.bool true) H4_0 fun H22 =>
  o.add q4_4 (.int .i64 1) fun x23 =>
  k11 q4_0 q4_3 x23 H22))
def f13_l2 (o : Ops) (K : Nat) (C : CallC) : SV → SV → SV → Heap → (SV → SV → SV → Heap → Rs) → Rs := fun y7 y8 y9 H10 k11 =>
  o.len y7 fun x12 =>
  o.lss y9 x12 fun x13 =>
  (o.cond x13
  (o.idx 1 y7 y9 fun x14 =>
  o.load 1 false x14 H10 fun x15 =>
  o.lss x15 (.int .i64 0) fun x16 =>
  (o.guard x16
  ((f13_j4 o K C k11 y7 y8 y9 (.bool true) H10))
  (o.idx 1 y7 y9 fun x24 =>
  o.load 1 false x24 H10 fun x25 =>
  o.len y7 fun x26 =>
  o.geq x25 x26 fun x27 =>
  (o.guard x27
  ((f13_j4 o K C k11 y7 y8 y9 (.bool true) H10))
  (o.idx 1 y7 y9 fun x28 =>
  o.load 1 false x28 H10 fun x29 =>
  o.idx 1 y8 x29 fun x30 =>
  o.load 1 false x30 H10 fun x31 =>
  (f13_j4 o K C k11 y7 y8 y9 x31 H10))
  (none)))
  (none)))
  (some ((.int .i64 0), H10)))
def f13 (o : Ops) (K : Nat) (C : CallC) (a0 : SV) (H : Heap) : Rs :=
  o.len a0 fun x1 =>
  o.gtr x1 (.int .i64 64) fun x2 =>
  (o.cond x2
  (some ((.int .i64 3), H))
  (o.len a0 fun x4 =>
  o.make 1 1 [.bool false] x4 x4 H fun x5 H6 =>
  (o.loop3 (f13_l2 o K C) K a0 x5 (.int .i64 0) H6)))
/-- parquet/parquetref18.Parted -/
def f14_j11 (o : Ops) (K : Nat) (C : CallC) (k36 : SV → SV → SV → SV → SV → SV → Heap → Rs) (q11_0 q11_1 q11_5 q11_7 q11_8 q11_9 q11_10 q11_11 : SV) (H11_0 : Heap) : Rs :=
  o.idx 1 q11_5 q11_9 fun x47 =>
  o.store 1 x47 q11_11 H11_0 fun H49 =>
  o.idx 1 q11_5 q11_10 fun x50 =>
  o.store 1 x50 q11_11 H49 fun H52 =>
  o.add q11_9 (.int .i64 1) fun x53 =>
  k36 q11_0 q11_1 q11_5 q11_7 q11_8 x53 H52
def f14_l9 (o : Ops) (K : Nat) (C : CallC) (k26 : SV → SV → SV → SV → SV → Heap → Rs) : SV → SV → SV → SV → SV → SV → Heap → (SV → SV → SV → SV → SV → SV → Heap → Rs) → Rs := fun y29 y30 y31 y32 y33 y34 H35 k36 =>
  o.lss y34 y29 fun x37 =>
  (o.cond x37
  (o.idx 1 y30 y33 fun x38 =>
  o.load 1 false x38 H35 fun x39 =>
  o.idx 1 x39 y34 fun x40 =>
  o.load 1 false x40 H35 fun x41 =>
  o.idx 1 y31 y34 fun x42 =>
  o.load 1 false x42 H35 fun x43 =>
  o.idx 1 y31 x41 fun x44 =>
  o.load 1 false x44 H35 fun x45 =>
  o.min [x43, x45] fun x46 =>
  (o.guard y32
  ((f14_j11 o K C k36 y29 y30 y31 (.bool true) y33 y34 x41 x46 H35))
  (o.idx 1 y31 y34 fun x54 =>
  o.load 1 false x54 H35 fun x55 =>
  o.neq x55 x46 fun x56 =>
  (o.guard x56
  ((f14_j11 o K C k36 y29 y30 y31 (.bool true) y33 y34 x41 x46 H35))
  (o.idx 1 y31 x41 fun x57 =>
  o.load 1 false x57 H35 fun x58 =>
  o.neq x58 x46 fun x59 =>
  (f14_j11 o K C k36 y29 y30 y31 x59 y33 y34 x41 x46 H35))
  (none)))
  (none)))
  (o.add y33 (.int .i64 1) fun x60 =>
  k26 y29 y30 y31 y32 x60 H35))
def f14_l7 (o : Ops) (K : Nat) (C : CallC) (k19 : SV → SV → SV → SV → Heap → Rs) : SV → SV → SV → SV → SV → Heap → (SV → SV → SV → SV → SV → Heap → Rs) → Rs := fun y20 y21 y22 y23 y24 H25 k26 =>
  o.len y21 fun x27 =>
  o.lss y24 x27 fun x28 =>
  (o.cond x28
  ((o.loop6 (f14_l9 o K C k26) K y20 y21 y22 y23 y24 (.int .i64 0) H25))
  (k19 y20 y21 y22 y23 H25))
def f14_j20 (o : Ops) (K : Nat) (C : CallC) (k66 : SV → SV → SV → SV → Heap → Rs) (q20_0 q20_5 q20_12 q20_13 : SV) (H20_0 : Heap) : Rs :=
  o.add q20_13 (.int .i64 1) fun x71 =>
  k66 q20_0 q20_5 q20_12 x71 H20_0
def f14_j24 (o : Ops) (K : Nat) (C : CallC) (k79 : SV → SV → SV → SV → SV → SV → Heap → Rs) (q24_0 q24_5 q24_12 q24_13 q24_14 q24_15 : SV) (H24_0 : Heap) : Rs :=
  o.add q24_15 (.int .i64 1) fun x88 =>
  k79 q24_0 q24_5 q24_12 q24_13 q24_14 x88 H24_0
def f14_l22 (o : Ops) (K : Nat) (C : CallC) (k66 : SV → SV → SV → SV → Heap → Rs) : SV → SV → SV → SV → SV → SV → Heap → (SV → SV → SV → SV → SV → SV → Heap → Rs) → Rs := fun y72 y73 y74 y75 y76 y77 H78 k79 =>
  o.lss y77 y72 fun x80 =>
  (o.cond x80
  (o.idx 1 y73 y77 fun x81 =>
  o.load 1 false x81 H78 fun x82 =>
  o.eql x82 y75 fun x83 =>
  (o.cond x83
  (o.hbuild 1 [.int .i64 0] [(0, 1)] [y77] H78 fun x84 H85 =>
  o.append 1 8 y76 x84 H85 fun x86 H87 =>
  (f14_j24 o K C k79 y72 y73 y74 y75 x86 y77 H87))
  ((f14_j24 o K C k79 y72 y73 y74 y75 y76 y77 H78))))
  (o.hbuild 1 [.slice nilSl] [(0, 1)] [y76] H78 fun x89 H90 =>
  o.append 1 24 y74 x89 H90 fun x91 H92 =>
  (f14_j20 o K C k66 y72 y73 x91 y75 H92)))
def f14_l18 (o : Ops) (K : Nat) (C : CallC) : SV → SV → SV → SV → Heap → (SV → SV → SV → SV → Heap → Rs) → Rs := fun y61 y62 y63 y64 H65 k66 =>
  o.lss y64 y61 fun x67 =>
  (o.cond x67
  (o.idx 1 y62 y64 fun x68 =>
  o.load 1 false x68 H65 fun x69 =>
  o.neq x69 y64 fun x70 =>
  (o.cond x70
  ((f14_j20 o K C k66 y61 y62 y63 y64 H65))
  ((o.loop6 (f14_l22 o K C k66) K y61 y62 y63 y64 (.slice nilSl) (.int .i64 0) H65))))
  (o.rest y63 fun r93 =>
  some (r93, H65)))
def f14_l5 (o : Ops) (K : Nat) (C : CallC) : SV → SV → SV → SV → Heap → (SV → SV → SV → SV → Heap → Rs) → Rs := fun y14 y15 y16 y17 H18 k19 =>
  (o.cond y17
  ((o.loop5 (f14_l7 o K C k19) K y14 y15 y16 (.bool false) (.int .i64 0) H18))
  ((o.loop4 (f14_l18 o K C) K y14 y16 (.slice nilSl) (.int .i64 0) H18)))
def f14_l1 (o : Ops) (K : Nat) (C : CallC) : SV → SV → SV → SV → Heap → (SV → SV → SV → SV → Heap → Rs) → Rs := fun y3 y4 y5 y6 H7 k8 =>
  o.lss y6 y3 fun x9 =>
  (o.cond x9
  (o.idx 1 y5 y6 fun x10 =>
  o.store 1 x10 y6 H7 fun H12 =>
  o.add y6 (.int .i64 1) fun x13 =>
  k8 y3 y4 y5 x13 H12)
  ((o.loop4 (f14_l5 o K C) K y3 y4 y5 (.bool true) H7)))
def f14 (o : Ops) (K : Nat) (C : CallC) (a0 a1 : SV) (H : Heap) : Rs :=
  o.make 1 8 [.int .i64 0] a0 a0 H fun x1 H2 =>
  (o.loop4 (f14_l1 o K C) K a0 a1 x1 (.int .i64 0) H2)
/-- parquet/parquetref18.Same -/
def f15_l2 (o : Ops) (K : Nat) (C : CallC) : SV → SV → SV → Heap → (SV → SV → SV → Heap → Rs) → Rs := fun y5 y6 y7 H8 k9 =>
  o.len y5 fun x10 =>
  o.lss y7 x10 fun x11 =>
  (o.cond x11
  (o.idx 1 y5 y7 fun x12 =>
  o.load 1 false x12 H8 fun x13 =>
  o.idx 1 y6 y7 fun x14 =>
  o.load 1 false x14 H8 fun x15 =>
  o.neq x13 x15 fun x16 =>
  (o.cond x16
  (some ((.bool false), H8))
  (o.add y7 (.int .i64 1) fun x18 =>
  k9 y5 y6 x18 H8)))
  (some ((.bool true), H8)))
def f15 (o : Ops) (K : Nat) (C : CallC) (a0 a1 : SV) (H : Heap) : Rs :=
  o.len a0 fun x1 =>
  o.len a1 fun x2 =>
  o.neq x1 x2 fun x3 =>
  (o.cond x3
  (some ((.bool false), H))
  ((o.loop3 (f15_l2 o K C) K a0 a1 (.int .i64 0) H)))
/-- parquet/perm.Mul -/
def f16_l3 (o : Ops) (K : Nat) (C : CallC) : SV → SV → SV → SV → SV → Heap → (SV → SV → SV → SV → SV → Heap → Rs) → Rs := fun y17 y18 y19 y20 y21 H22 k23 =>
  o.lss y21 y20 fun x24 =>
  (o.cond x24
  (o.idx 1 y19 y21 fun x25 =>
  o.load 1 false x25 H22 fun x26 =>
  o.idx 1 y17 x26 fun x27 =>
  o.load 1 false x27 H22 fun x28 =>
  o.idx 1 y18 y21 fun x29 =>
  o.store 1 x29 x28 H22 fun H31 =>
  o.add y21 (.int .i64 1) fun x32 =>
  k23 y17 y18 y19 y20 x32 H31)
  (o.rest y18 fun r33 =>
  some (.tuple [r33, (.int .i64 0)], H22)))
def f16 (o : Ops) (K : Nat) (C : CallC) (a0 a1 : SV) (H : Heap) : Rs :=
  o.hbuild 1 [.slice nilSl, .slice nilSl] [(0, 1), (1, 1)] [a0, a1] H fun x1 H2 =>
  o.call (C 19 [x1] H2) fun x3 H4 =>
  o.neq x3 (.int .i64 0) fun x5 =>
  (o.cond x5
  (o.rest x3 fun r7 =>
  some (.tuple [(.slice nilSl), r7], H4))
  (o.len a0 fun x8 =>
  o.len a1 fun x9 =>
  o.neq x8 x9 fun x10 =>
  (o.cond x10
  (some (.tuple [(.slice nilSl), (.int .i64 180)], H4))
  (o.len a0 fun x13 =>
  o.make 1 8 [.int .i64 0] x13 x13 H4 fun x14 H15 =>
  o.len a0 fun x16 =>
  (o.loop5 (f16_l3 o K C) K a1 x14 a0 x16 (.int .i64 0) H15)))))
/-- parquet/perm.Cycles -/
def f17_j5 (o : Ops) (K : Nat) (C : CallC) (k13 : SV → SV → SV → SV → SV → Heap → Rs) (q5_0 q5_5 q5_6 q5_16 q5_17 : SV) (H5_0 : Heap) : Rs :=
  o.add q5_17 (.int .i64 1) fun x17 =>
  k13 q5_0 q5_5 q5_6 q5_16 x17 H5_0
def f17_l7 (o : Ops) (K : Nat) (C : CallC) (k13 : SV → SV → SV → SV → SV → Heap → Rs) : SV → SV → SV → SV → SV → SV → SV → Heap → (SV → SV → SV → SV → SV → SV → SV → Heap → Rs) → Rs := fun y18 y19 y20 y21 y22 y23 y24 H25 k26 =>
  o.lidx 64 1 y19 y22 fun x27 =>
  o.lloadp 1 false y19 x27 fun x28 =>
  o.u_not x28 fun x29 =>
  (o.cond x29
  (o.lidx 64 1 y19 y22 fun x30 =>
  o.bstorep 1 y19 x30 (.bool true) fun c31 =>
  o.hbuild 1 [.int .i64 0] [(0, 1)] [y22] H25 fun x32 H33 =>
  o.append 1 8 y21 x32 H33 fun x34 H35 =>
  o.idx 1 y18 y22 fun x36 =>
  o.load 1 false x36 H35 fun x37 =>
  k26 y18 (.box c31) y20 x34 x37 y23 y24 H35)
  (o.hbuild 1 [.slice nilSl] [(0, 1)] [y21] H25 fun x38 H39 =>
  o.append 1 24 y20 x38 H39 fun x40 H41 =>
  (f17_j5 o K C k13 y18 y19 x40 y23 y24 H41)))
def f17_j4 (o : Ops) (K : Nat) (C : CallC) (k13 : SV → SV → SV → SV → SV → Heap → Rs) (q4_0 q4_5 q4_6 q4_7 q4_16 q4_17 q4_30 : SV) (H4_0 : Heap) : Rs :=
  (o.cond q4_30
  ((f17_j5 o K C k13 q4_0 q4_5 q4_6 q4_16 q4_17 H4_0))
  ((o.loop7 (f17_l7 o K C k13) K q4_0 q4_5 q4_6 (.slice nilSl) q4_7 q4_16 q4_17 H4_0)))
def f17_l2 (o : Ops) (K : Nat) (C : CallC) : SV → SV → SV → SV → SV → Heap → (SV → SV → SV → SV → SV → Heap → Rs) → Rs := fun y7 y8 y9 y10 y11 H12 k13 =>
  o.lss y11 y10 fun x14 =>
  (o.cond x14
  (o.lidx 64 1 y8 y11 fun x15 =>
  o.lloadp 1 false y8 x15 fun x16 =>
  (o.guard x16
  ((f17_j4 o K C k13 y7 y8 y9 y11 y10 y11 (.bool true) H12))
  (o.idx 1 y7 y11 fun x42 =>
  o.load 1 false x42 H12 fun x43 =>
  o.eql x43 y11 fun x44 =>
  (f17_j4 o K C k13 y7 y8 y9 y11 y10 y11 x44 H12))
  (none)))
  (o.rest y9 fun r45 =>
  some (.tuple [r45, (.int .i64 0)], H12)))
def f17 (o : Ops) (K : Nat) (C : CallC) (a0 : SV) (H : Heap) : Rs :=
  o.call (C 10 [a0] H) fun x1 H2 =>
  o.neq x1 (.int .i64 0) fun x3 =>
  (o.cond x3
  (o.rest x1 fun r5 =>
  some (.tuple [(.slice nilSl), r5], H2))
  (o.len a0 fun x6 =>
  (o.loop5 (f17_l2 o K C) K a0 (.box [.bool false, .bool false, .bool false, .bool false, .bool false, .bool false, .bool false, .bool false, .bool false, .bool false, .bool false, .bool false, .bool false, .bool false, .bool false, .bool false, .bool false, .bool false, .bool false, .bool false, .bool false, .bool false, .bool false, .bool false, .bool false, .bool false, .bool false, .bool false, .bool false, .bool false, .bool false, .bool false, .bool false, .bool false, .bool false, .bool false, .bool false, .bool false, .bool false, .bool false, .bool false, .bool false, .bool false, .bool false, .bool false, .bool false, .bool false, .bool false, .bool false, .bool false, .bool false, .bool false, .bool false, .bool false, .bool false, .bool false, .bool false, .bool false, .bool false, .bool false, .bool false, .bool false, .bool false, .bool false]) (.slice nilSl) x6 (.int .i64 0) H2)))
/-- parquet/perm.Order -/
def f18_l2 (o : Ops) (K : Nat) (C : CallC) : SV → SV → SV → SV → Heap → (SV → SV → SV → SV → Heap → Rs) → Rs := fun y12 y13 y14 y15 H16 k17 =>
  o.lss y15 y14 fun x18 =>
  (o.cond x18
  (o.idx 1 y13 y15 fun x19 =>
  o.load 1 false x19 H16 fun x20 =>
  o.len x20 fun x21 =>
  o.conv .u64 x21 fun x22 =>
  o.call (C 20 [x22] H16) fun x23 H24 =>
  o.bstore 0 1 (.box [.slice nilSl]) x23 fun c25 =>
  o.lload 0 1 true (.box c25) fun x26 =>
  o.lload 0 1 true y12 fun x27 =>
  o.lload 0 1 true (.box c25) fun x28 =>
  o.call (C 22 [x27, x28] H24) fun x29 H30 =>
  o.call (C 21 [x26, x29] H30) fun x31 H32 =>
  o.ext 0 x31 fun x33 =>
  o.ext 1 x31 fun x34 =>
  o.ext 2 x31 fun x35 =>
  o.bstore 0 1 (.box [.slice nilSl]) x33 fun c36 =>
  o.bstore 0 1 (.box [.slice nilSl]) x34 fun c37 =>
  o.lload 0 1 true y12 fun x38 =>
  o.lload 0 1 true (.box c36) fun x39 =>
  o.call (C 23 [x38, x39] H32) fun x40 H41 =>
  o.ext 0 x40 fun x42 =>
  o.ext 1 x40 fun x43 =>
  o.bstore 0 1 y12 x42 fun c44 =>
  o.add y15 (.int .i64 1) fun x45 =>
  k17 (.box c44) y13 y14 x45 H41)
  (o.lload 0 1 true y12 fun x46 =>
  o.call (C 24 [x46] H16) fun x47 H48 =>
  o.rest x47 fun r49 =>
  some (.tuple [r49, (.int .i64 0)], H48)))
def f18 (o : Ops) (K : Nat) (C : CallC) (a0 : SV) (H : Heap) : Rs :=
  o.call (C 17 [a0] H) fun x1 H2 =>
  o.ext 0 x1 fun x3 =>
  o.ext 1 x1 fun x4 =>
  o.neq x4 (.int .i64 0) fun x5 =>
  (o.cond x5
  (o.rest x4 fun r7 =>
  some (.tuple [(.str []), r7], H2))
  (o.call (C 20 [(.int .u64 1)] H2) fun x8 H9 =>
  o.bstore 0 1 (.box [.slice nilSl]) x8 fun c10 =>
  o.len x3 fun x11 =>
  (o.loop4 (f18_l2 o K C) K (.box c10) x3 x11 (.int .i64 0) H9)))
/-- parquet/perm.checked -/
def f19_l1 (o : Ops) (K : Nat) (C : CallC) : SV → SV → SV → Heap → (SV → SV → SV → Heap → Rs) → Rs := fun y2 y3 y4 H5 k6 =>
  o.lss y4 y3 fun x7 =>
  (o.cond x7
  (o.idx 1 y2 y4 fun x8 =>
  o.load 1 false x8 H5 fun x9 =>
  o.call (C 10 [x9] H5) fun x10 H11 =>
  o.neq x10 (.int .i64 0) fun x12 =>
  (o.cond x12
  (o.rest x10 fun r13 =>
  some (r13, H11))
  (o.add y4 (.int .i64 1) fun x14 =>
  k6 y2 y3 x14 H11)))
  (some ((.int .i64 0), H5)))
def f19 (o : Ops) (K : Nat) (C : CallC) (a0 : SV) (H : Heap) : Rs :=
  o.len a0 fun x1 =>
  (o.loop3 (f19_l1 o K C) K a0 x1 (.int .i64 0) H)
/-- parquet/nat.Of -/
def f20 (o : Ops) (K : Nat) (C : CallC) (a0 : SV) (H : Heap) : Rs :=
  o.conv .u32 a0 fun x1 =>
  o.shr a0 (.int .u64 32) fun x2 =>
  o.conv .u32 x2 fun x3 =>
  o.hbuild 1 [.int .u32 0, .int .u32 0] [(0, 1), (1, 1)] [x1, x3] H fun x4 H5 =>
  o.call (C 25 [x4] H5) fun x6 H7 =>
  o.bstore 0 1 (.box [.slice nilSl]) x6 fun c8 =>
  o.resc 1 true (.box c8) fun r9 =>
  some (r9, H7)
/-- parquet/nat.Div -/
def f21 (o : Ops) (K : Nat) (C : CallC) (a0 a1 : SV) (H : Heap) : Rs :=
  o.bbox a0 fun c1 =>
  o.bbox a1 fun c2 =>
  o.lfld 0 (.box c2) fun x3 =>
  o.lloadp 1 false (.box c2) x3 fun x4 =>
  o.len x4 fun x5 =>
  o.eql x5 (.int .i64 0) fun x6 =>
  (o.cond x6
  (o.build [.slice nilSl] [] [] fun x7 =>
  o.build [.slice nilSl] [] [] fun x8 =>
  o.bstore 0 1 (.box [.slice nilSl]) x7 fun c9 =>
  o.bstore 0 1 (.box [.slice nilSl]) x8 fun c10 =>
  o.resc 1 true (.box c9) fun r11 =>
  o.resc 1 true (.box c10) fun r12 =>
  some (.tuple [r11, r12, (.int .i64 11)], H))
  (o.lload 0 1 true (.box c1) fun x14 =>
  o.lload 0 1 true (.box c2) fun x15 =>
  o.call (C 26 [x14, x15] H) fun x16 H17 =>
  o.lss x16 (.int .i64 0) fun x18 =>
  (o.cond x18
  (o.build [.slice nilSl] [] [] fun x19 =>
  o.lload 0 1 true (.box c1) fun x20 =>
  o.bstore 0 1 (.box [.slice nilSl]) x19 fun c21 =>
  o.bstore 0 1 (.box [.slice nilSl]) x20 fun c22 =>
  o.resc 1 true (.box c21) fun r23 =>
  o.resc 1 true (.box c22) fun r24 =>
  some (.tuple [r23, r24, (.int .i64 0)], H17))
  (o.lfld 0 (.box c2) fun x26 =>
  o.lloadp 1 false (.box c2) x26 fun x27 =>
  o.len x27 fun x28 =>
  o.eql x28 (.int .i64 1) fun x29 =>
  (o.cond x29
  (o.lfld 0 (.box c1) fun x30 =>
  o.lloadp 1 false (.box c1) x30 fun x31 =>
  o.append 1 4 (.slice nilSl) x31 H17 fun x32 H33 =>
  o.lfld 0 (.box c2) fun x34 =>
  o.lloadp 1 false (.box c2) x34 fun x35 =>
  o.idx 1 x35 (.int .i64 0) fun x36 =>
  o.load 1 false x36 H33 fun x37 =>
  o.call (C 27 [x32, x37] H33) fun x38 H39 =>
  o.call (C 25 [x32] H39) fun x40 H41 =>
  o.conv .u64 x38 fun x42 =>
  o.call (C 20 [x42] H41) fun x43 H44 =>
  o.bstore 0 1 (.box [.slice nilSl]) x40 fun c45 =>
  o.bstore 0 1 (.box [.slice nilSl]) x43 fun c46 =>
  o.resc 1 true (.box c45) fun r47 =>
  o.resc 1 true (.box c46) fun r48 =>
  some (.tuple [r47, r48, (.int .i64 0)], H44))
  (o.lload 0 1 true (.box c1) fun x50 =>
  o.lload 0 1 true (.box c2) fun x51 =>
  o.call (C 28 [x50, x51] H17) fun x52 H53 =>
  o.ext 0 x52 fun x54 =>
  o.ext 1 x52 fun x55 =>
  o.bstore 0 1 (.box [.slice nilSl]) x54 fun c56 =>
  o.bstore 0 1 (.box [.slice nilSl]) x55 fun c57 =>
  o.lload 0 1 true (.box c56) fun x58 =>
  o.lload 0 1 true (.box c57) fun x59 =>
  o.bstore 0 1 (.box c56) x58 fun c60 =>
  o.bstore 0 1 (.box c57) x59 fun c61 =>
  o.resc 1 true (.box c60) fun r62 =>
  o.resc 1 true (.box c61) fun r63 =>
  some (.tuple [r62, r63, (.int .i64 0)], H53)))))))
/-- parquet/nat.Gcd -/
def f22_l1 (o : Ops) (K : Nat) (C : CallC) : SV → SV → SV → Heap → (SV → SV → SV → Heap → Rs) → Rs := fun y3 y4 y5 H6 k7 =>
  o.lfld 0 y4 fun x8 =>
  o.lloadp 1 false y4 x8 fun x9 =>
  o.len x9 fun x10 =>
  o.gtr x10 (.int .i64 0) fun x11 =>
  (o.cond x11
  (o.lload 0 1 true y3 fun x12 =>
  o.lload 0 1 true y4 fun x13 =>
  o.call (C 21 [x12, x13] H6) fun x14 H15 =>
  o.ext 0 x14 fun x16 =>
  o.ext 1 x14 fun x17 =>
  o.ext 2 x14 fun x18 =>
  o.bstore 0 1 (.box [.slice nilSl]) x16 fun c19 =>
  o.bstore 0 1 (.box [.slice nilSl]) x17 fun c20 =>
  o.lload 0 1 true y4 fun x21 =>
  o.lload 0 1 true (.box c20) fun x22 =>
  o.bstore 0 1 y3 x21 fun c23 =>
  o.bstore 0 1 y4 x22 fun c24 =>
  k7 (.box c23) (.box c24) y5 H15)
  (o.lload 0 1 true y3 fun x25 =>
  o.bstore 0 1 y5 x25 fun c26 =>
  o.resc 1 true (.box c26) fun r27 =>
  some (r27, H6)))
def f22 (o : Ops) (K : Nat) (C : CallC) (a0 a1 : SV) (H : Heap) : Rs :=
  o.bbox a0 fun c1 =>
  o.bbox a1 fun c2 =>
  (o.loop3 (f22_l1 o K C) K (.box c1) (.box c2) (.box [.slice nilSl]) H)
/-- parquet/nat.Mul -/
def f23 (o : Ops) (K : Nat) (C : CallC) (a0 a1 : SV) (H : Heap) : Rs :=
  o.bbox a0 fun c1 =>
  o.bbox a1 fun c2 =>
  o.lload 0 1 true (.box c1) fun x3 =>
  o.call (C 29 [x3] H) fun x4 H5 =>
  o.lload 0 1 true (.box c2) fun x6 =>
  o.call (C 29 [x6] H5) fun x7 H8 =>
  o.add x4 x7 fun x9 =>
  o.gtr x9 (.int .i64 4097) fun x10 =>
  (o.cond x10
  (o.build [.slice nilSl] [] [] fun x11 =>
  o.bstore 0 1 (.box [.slice nilSl]) x11 fun c12 =>
  o.resc 1 true (.box c12) fun r13 =>
  some (.tuple [r13, (.int .i64 3)], H8))
  (o.lload 0 1 true (.box c1) fun x15 =>
  o.lload 0 1 true (.box c2) fun x16 =>
  o.call (C 30 [x15, x16] H8) fun x17 H18 =>
  o.call (C 31 [x17] H18) fun x19 H20 =>
  o.ext 0 x19 fun x21 =>
  o.ext 1 x19 fun x22 =>
  o.bstore 0 1 (.box [.slice nilSl]) x21 fun c23 =>
  o.resc 1 true (.box c23) fun r24 =>
  o.rest x22 fun r25 =>
  some (.tuple [r24, r25], H20)))
/-- (parquet/nat.Nat).Text -/
def f24_j5 (o : Ops) (K : Nat) (C : CallC) (k14 : SV → SV → Heap → Rs) (k27 : SV → SV → SV → SV → Heap → Rs) (q5_3 q5_4 q5_5 q5_6 q5_34 : SV) (H5_0 : Heap) : Rs :=
  (o.cond q5_34
  (o.rem q5_5 (.int .u32 10) fun x31 =>
  o.add (.int .u32 48) x31 fun x32 =>
  o.conv .u8 x32 fun x33 =>
  o.hbuild 1 [.int .u8 0] [(0, 1)] [x33] H5_0 fun x34 H35 =>
  o.append 1 1 q5_4 x34 H35 fun x36 H37 =>
  o.quo q5_5 (.int .u32 10) fun x38 =>
  o.add q5_6 (.int .i64 1) fun x39 =>
  k27 q5_3 x36 x38 x39 H37)
  (k14 q5_3 q5_4 H5_0))
def f24_l4 (o : Ops) (K : Nat) (C : CallC) (k14 : SV → SV → Heap → Rs) : SV → SV → SV → SV → Heap → (SV → SV → SV → SV → Heap → Rs) → Rs := fun y22 y23 y24 y25 H26 k27 =>
  o.lss y25 (.int .i64 9) fun x28 =>
  (o.guard x28
  (o.len y22 fun x29 =>
  o.gtr x29 (.int .i64 0) fun x30 =>
  (o.guard x30
  ((f24_j5 o K C k14 k27 y22 y23 y24 y25 (.bool true) H26))
  (o.gtr y24 (.int .u32 0) fun x40 =>
  (f24_j5 o K C k14 k27 y22 y23 y24 y25 x40 H26))
  (none)))
  ((f24_j5 o K C k14 k27 y22 y23 y24 y25 (.bool false) H26))
  (none))
def f24_l11 (o : Ops) (K : Nat) (C : CallC) : SV → SV → SV → Heap → (SV → SV → SV → Heap → Rs) → Rs := fun y43 y44 y45 H46 k47 =>
  o.lss y44 y45 fun x48 =>
  (o.cond x48
  (o.idx 1 y43 y45 fun x49 =>
  o.load 1 false x49 H46 fun x50 =>
  o.idx 1 y43 y44 fun x51 =>
  o.load 1 false x51 H46 fun x52 =>
  o.idx 1 y43 y44 fun x53 =>
  o.store 1 x53 x50 H46 fun H55 =>
  o.idx 1 y43 y45 fun x56 =>
  o.store 1 x56 x52 H55 fun H58 =>
  o.add y44 (.int .i64 1) fun x59 =>
  o.sub y45 (.int .i64 1) fun x60 =>
  k47 y43 x59 x60 H58)
  (o.str y43 H46 fun x61 =>
  o.rest x61 fun r62 =>
  some (r62, H46)))
def f24_l2 (o : Ops) (K : Nat) (C : CallC) : SV → SV → Heap → (SV → SV → Heap → Rs) → Rs := fun y11 y12 H13 k14 =>
  o.len y11 fun x15 =>
  o.gtr x15 (.int .i64 0) fun x16 =>
  (o.cond x16
  (o.call (C 27 [y11, (.int .u32 1000000000)] H13) fun x17 H18 =>
  o.call (C 25 [y11] H18) fun x19 H20 =>
  o.fieldv 0 1 false x19 fun x21 =>
  (o.loop4 (f24_l4 o K C k14) K x21 y12 x17 (.int .i64 0) H20))
  (o.len y12 fun x41 =>
  o.sub x41 (.int .i64 1) fun x42 =>
  (o.loop3 (f24_l11 o K C) K y12 (.int .i64 0) x42 H13)))
def f24 (o : Ops) (K : Nat) (C : CallC) (a0 : SV) (H : Heap) : Rs :=
  o.bbox a0 fun c1 =>
  o.lfld 0 (.box c1) fun x2 =>
  o.lloadp 1 false (.box c1) x2 fun x3 =>
  o.len x3 fun x4 =>
  o.eql x4 (.int .i64 0) fun x5 =>
  (o.cond x5
  (some ((.str [48]), H))
  (o.lfld 0 (.box c1) fun x7 =>
  o.lloadp 1 false (.box c1) x7 fun x8 =>
  o.append 1 4 (.slice nilSl) x8 H fun x9 H10 =>
  (o.loop2 (f24_l2 o K C) K x9 (.slice nilSl) H10)))
/-- parquet/nat.cut -/
def f25_j2 (o : Ops) (K : Nat) (C : CallC) (k6 : SV → SV → SV → Heap → Rs) (q2_0 q2_2 q2_3 q2_15 : SV) (H2_0 : Heap) : Rs :=
  (o.cond q2_15
  (o.sub q2_3 (.int .i64 1) fun x12 =>
  k6 q2_0 q2_2 x12 H2_0)
  (o.slice011 1 q2_0 q2_3 q2_3 H2_0 fun x13 =>
  o.build [.slice nilSl] [(0, 1)] [x13] fun x14 =>
  o.bstore 0 1 q2_2 x14 fun c15 =>
  o.resc 1 true (.box c15) fun r16 =>
  some (r16, H2_0)))
def f25_l1 (o : Ops) (K : Nat) (C : CallC) : SV → SV → SV → Heap → (SV → SV → SV → Heap → Rs) → Rs := fun y2 y3 y4 H5 k6 =>
  o.gtr y4 (.int .i64 0) fun x7 =>
  (o.guard x7
  (o.sub y4 (.int .i64 1) fun x8 =>
  o.idx 1 y2 x8 fun x9 =>
  o.load 1 false x9 H5 fun x10 =>
  o.eql x10 (.int .u32 0) fun x11 =>
  (f25_j2 o K C k6 y2 y3 y4 x11 H5))
  ((f25_j2 o K C k6 y2 y3 y4 (.bool false) H5))
  (none))
def f25 (o : Ops) (K : Nat) (C : CallC) (a0 : SV) (H : Heap) : Rs :=
  o.len a0 fun x1 =>
  (o.loop3 (f25_l1 o K C) K a0 (.box [.slice nilSl]) x1 H)
/-- parquet/nat.Cmp -/
def f26_l3 (o : Ops) (K : Nat) (C : CallC) : SV → SV → SV → Heap → (SV → SV → SV → Heap → Rs) → Rs := fun y23 y24 y25 H26 k27 =>
  o.geq y25 (.int .i64 0) fun x28 =>
  (o.cond x28
  (o.lfld 0 y23 fun x29 =>
  o.lloadp 1 false y23 x29 fun x30 =>
  o.idx 1 x30 y25 fun x31 =>
  o.load 1 false x31 H26 fun x32 =>
  o.lfld 0 y24 fun x33 =>
  o.lloadp 1 false y24 x33 fun x34 =>
  o.idx 1 x34 y25 fun x35 =>
  o.load 1 false x35 H26 fun x36 =>
  o.lss x32 x36 fun x37 =>
  (o.cond x37
  (some ((.int .i64 (-1)), H26))
  (o.lfld 0 y23 fun x39 =>
  o.lloadp 1 false y23 x39 fun x40 =>
  o.idx 1 x40 y25 fun x41 =>
  o.load 1 false x41 H26 fun x42 =>
  o.lfld 0 y24 fun x43 =>
  o.lloadp 1 false y24 x43 fun x44 =>
  o.idx 1 x44 y25 fun x45 =>
  o.load 1 false x45 H26 fun x46 =>
  o.gtr x42 x46 fun x47 =>
  (o.cond x47
  (some ((.int .i64 1), H26))
  (o.sub y25 (.int .i64 1) fun x49 =>
  k27 y23 y24 x49 H26)))))
  (some ((.int .i64 0), H26)))
def f26 (o : Ops) (K : Nat) (C : CallC) (a0 a1 : SV) (H : Heap) : Rs :=
  o.bbox a0 fun c1 =>
  o.bbox a1 fun c2 =>
  o.lfld 0 (.box c1) fun x3 =>
  o.lloadp 1 false (.box c1) x3 fun x4 =>
  o.len x4 fun x5 =>
  o.lfld 0 (.box c2) fun x6 =>
  o.lloadp 1 false (.box c2) x6 fun x7 =>
  o.len x7 fun x8 =>
  o.neq x5 x8 fun x9 =>
  (o.cond x9
  (o.lfld 0 (.box c1) fun x10 =>
  o.lloadp 1 false (.box c1) x10 fun x11 =>
  o.len x11 fun x12 =>
  o.lfld 0 (.box c2) fun x13 =>
  o.lloadp 1 false (.box c2) x13 fun x14 =>
  o.len x14 fun x15 =>
  o.lss x12 x15 fun x16 =>
  (o.cond x16
  (some ((.int .i64 (-1)), H))
  (some ((.int .i64 1), H))))
  (o.lfld 0 (.box c1) fun x19 =>
  o.lloadp 1 false (.box c1) x19 fun x20 =>
  o.len x20 fun x21 =>
  o.sub x21 (.int .i64 1) fun x22 =>
  (o.loop3 (f26_l3 o K C) K (.box c1) (.box c2) x22 H)))
/-- parquet/nat.short -/
def f27_l1 (o : Ops) (K : Nat) (C : CallC) : SV → SV → SV → SV → Heap → (SV → SV → SV → SV → Heap → Rs) → Rs := fun y3 y4 y5 y6 H7 k8 =>
  o.geq y6 (.int .i64 0) fun x9 =>
  (o.cond x9
  (o.shl y5 (.int .u64 32) fun x10 =>
  o.idx 1 y3 y6 fun x11 =>
  o.load 1 false x11 H7 fun x12 =>
  o.conv .u64 x12 fun x13 =>
  o.or x10 x13 fun x14 =>
  o.conv .u64 y4 fun x15 =>
  o.quo x14 x15 fun x16 =>
  o.conv .u32 x16 fun x17 =>
  o.conv .u64 y4 fun x18 =>
  o.rem x14 x18 fun x19 =>
  o.idx 1 y3 y6 fun x20 =>
  o.store 1 x20 x17 H7 fun H22 =>
  o.sub y6 (.int .i64 1) fun x23 =>
  k8 y3 y4 x19 x23 H22)
  (o.conv .u32 y5 fun x24 =>
  o.rest x24 fun r25 =>
  some (r25, H7)))
def f27 (o : Ops) (K : Nat) (C : CallC) (a0 a1 : SV) (H : Heap) : Rs :=
  o.len a0 fun x1 =>
  o.sub x1 (.int .i64 1) fun x2 =>
  (o.loop4 (f27_l1 o K C) K a0 a1 (.int .u64 0) x2 H)
/-- parquet/nat.long -/
def f28_j7 (o : Ops) (K : Nat) (C : CallC) (k42 : SV → SV → SV → SV → SV → SV → SV → SV → Heap → Rs) (q7_4 q7_5 q7_6 q7_7 q7_8 q7_9 q7_11 q7_12 : SV) (H7_0 : Heap) : Rs :=
  o.sub q7_12 (.int .i64 1) fun x100 =>
  k42 q7_4 q7_5 q7_6 q7_7 q7_8 q7_9 q7_11 x100 H7_0
def f28_j11 (o : Ops) (K : Nat) (C : CallC) (k120 : SV → SV → SV → SV → SV → SV → SV → SV → SV → SV → SV → SV → Heap → Rs) (q11_4 q11_5 q11_6 q11_7 q11_8 q11_9 q11_11 q11_12 q11_16 q11_17 q11_18 q11_156 q11_157 : SV) (H11_0 : Heap) : Rs :=
  o.conv .u32 q11_17 fun x131 =>
  o.idx 1 q11_16 q11_18 fun x132 =>
  o.store 1 x132 x131 H11_0 fun H134 =>
  o.shr q11_17 (.int .u64 32) fun x135 =>
  o.add q11_157 (.int .i64 1) fun x136 =>
  k120 q11_4 q11_5 q11_6 q11_7 q11_8 q11_9 q11_11 q11_12 q11_16 x135 q11_156 x136 H134
def f28_l9 (o : Ops) (K : Nat) (C : CallC) (k42 : SV → SV → SV → SV → SV → SV → SV → SV → Heap → Rs) : SV → SV → SV → SV → SV → SV → SV → SV → SV → SV → SV → SV → Heap → (SV → SV → SV → SV → SV → SV → SV → SV → SV → SV → SV → SV → Heap → Rs) → Rs := fun y107 y108 y109 y110 y111 y112 y113 y114 y115 y116 y117 y118 H119 k120 =>
  o.lss y118 y117 fun x121 =>
  (o.cond x121
  (o.idx 1 y115 y118 fun x122 =>
  o.load 1 false x122 H119 fun x123 =>
  o.conv .u64 x123 fun x124 =>
  o.add y116 x124 fun x125 =>
  o.lss y118 y109 fun x126 =>
  (o.cond x126
  (o.idx 1 y111 y118 fun x127 =>
  o.load 1 false x127 H119 fun x128 =>
  o.conv .u64 x128 fun x129 =>
  o.add x125 x129 fun x130 =>
  (f28_j11 o K C k120 y107 y108 y109 y110 y111 y112 y113 y114 y115 x130 y118 y117 y118 H119))
  ((f28_j11 o K C k120 y107 y108 y109 y110 y111 y112 y113 y114 y115 x125 y118 y117 y118 H119))))
  ((f28_j7 o K C k42 y107 y108 y109 y110 y111 y112 y113 y114 H119)))
def f28_j6 (o : Ops) (K : Nat) (C : CallC) (k42 : SV → SV → SV → SV → SV → SV → SV → SV → Heap → Rs) (q6_4 q6_5 q6_6 q6_7 q6_8 q6_9 q6_11 q6_12 q6_14 : SV) (H6_0 : Heap) : Rs :=
  o.add q6_12 q6_6 fun x87 =>
  o.add x87 (.int .i64 1) fun x88 =>
  o.add q6_12 q6_6 fun x89 =>
  o.add x89 (.int .i64 1) fun x90 =>
  o.slice111 1 q6_9 q6_12 x88 x90 H6_0 fun x91 =>
  o.conv .u32 q6_14 fun x92 =>
  o.call (C 34 [x91, q6_8, x92] H6_0) fun x93 H94 =>
  o.u_not x93 fun x95 =>
  (o.cond x95
  (o.conv .u32 q6_14 fun x96 =>
  o.idx 1 q6_11 q6_12 fun x97 =>
  o.store 1 x97 x96 H94 fun H99 =>
  (f28_j7 o K C k42 q6_4 q6_5 q6_6 q6_7 q6_8 q6_9 q6_11 q6_12 H99))
  (o.conv .u32 q6_14 fun x101 =>
  o.sub x101 (.int .u32 1) fun x102 =>
  o.idx 1 q6_11 q6_12 fun x103 =>
  o.store 1 x103 x102 H94 fun H105 =>
  o.len x91 fun x106 =>
  (o.loop12 (f28_l9 o K C k42) K q6_4 q6_5 q6_6 q6_7 q6_8 q6_9 q6_11 q6_12 x91 (.int .u64 0) x106 (.int .i64 0) H105)))
def f28_j4 (o : Ops) (K : Nat) (C : CallC) (k42 : SV → SV → SV → SV → SV → SV → SV → SV → Heap → Rs) (k76 : SV → SV → SV → SV → SV → SV → SV → SV → SV → SV → Heap → Rs) (q4_4 q4_5 q4_6 q4_7 q4_8 q4_9 q4_11 q4_12 q4_14 q4_15 q4_113 : SV) (H4_0 : Heap) : Rs :=
  (o.cond q4_113
  (o.sub q4_14 (.int .u64 1) fun x79 =>
  o.sub q4_6 (.int .i64 1) fun x80 =>
  o.idx 1 q4_8 x80 fun x81 =>
  o.load 1 false x81 H4_0 fun x82 =>
  o.conv .u64 x82 fun x83 =>
  o.add q4_15 x83 fun x84 =>
  o.shr x84 (.int .u64 32) fun x85 =>
  o.neq x85 (.int .u64 0) fun x86 =>
  (o.cond x86
  ((f28_j6 o K C k42 q4_4 q4_5 q4_6 q4_7 q4_8 q4_9 q4_11 q4_12 x79 H4_0))
  (k76 q4_4 q4_5 q4_6 q4_7 q4_8 q4_9 q4_11 q4_12 x79 x84 H4_0)))
  ((f28_j6 o K C k42 q4_4 q4_5 q4_6 q4_7 q4_8 q4_9 q4_11 q4_12 q4_14 H4_0)))
def f28_l3 (o : Ops) (K : Nat) (C : CallC) (k42 : SV → SV → SV → SV → SV → SV → SV → SV → Heap → Rs) : SV → SV → SV → SV → SV → SV → SV → SV → SV → SV → Heap → (SV → SV → SV → SV → SV → SV → SV → SV → SV → SV → Heap → Rs) → Rs := fun y65 y66 y67 y68 y69 y70 y71 y72 y73 y74 H75 k76 =>
  o.shr y73 (.int .u64 32) fun x77 =>
  o.neq x77 (.int .u64 0) fun x78 =>
  (o.guard x78
  ((f28_j4 o K C k42 k76 y65 y66 y67 y68 y69 y70 y71 y72 y73 y74 (.bool true) H75))
  (o.sub y67 (.int .i64 2) fun x137 =>
  o.idx 1 y69 x137 fun x138 =>
  o.load 1 false x138 H75 fun x139 =>
  o.conv .u64 x139 fun x140 =>
  o.mul y73 x140 fun x141 =>
  o.shl y74 (.int .u64 32) fun x142 =>
  o.add y72 y67 fun x143 =>
  o.sub x143 (.int .i64 2) fun x144 =>
  o.idx 1 y70 x144 fun x145 =>
  o.load 1 false x145 H75 fun x146 =>
  o.conv .u64 x146 fun x147 =>
  o.or x142 x147 fun x148 =>
  o.gtr x141 x148 fun x149 =>
  (f28_j4 o K C k42 k76 y65 y66 y67 y68 y69 y70 y71 y72 y73 y74 x149 H75))
  (none))
def f28_l1 (o : Ops) (K : Nat) (C : CallC) : SV → SV → SV → SV → SV → SV → SV → SV → Heap → (SV → SV → SV → SV → SV → SV → SV → SV → Heap → Rs) → Rs := fun y33 y34 y35 y36 y37 y38 y39 y40 H41 k42 =>
  o.geq y40 (.int .i64 0) fun x43 =>
  (o.cond x43
  (o.add y40 y35 fun x44 =>
  o.idx 1 y38 x44 fun x45 =>
  o.load 1 false x45 H41 fun x46 =>
  o.conv .u64 x46 fun x47 =>
  o.shl x47 (.int .u64 32) fun x48 =>
  o.add y40 y35 fun x49 =>
  o.sub x49 (.int .i64 1) fun x50 =>
  o.idx 1 y38 x50 fun x51 =>
  o.load 1 false x51 H41 fun x52 =>
  o.conv .u64 x52 fun x53 =>
  o.or x48 x53 fun x54 =>
  o.sub y35 (.int .i64 1) fun x55 =>
  o.idx 1 y37 x55 fun x56 =>
  o.load 1 false x56 H41 fun x57 =>
  o.conv .u64 x57 fun x58 =>
  o.quo x54 x58 fun x59 =>
  o.sub y35 (.int .i64 1) fun x60 =>
  o.idx 1 y37 x60 fun x61 =>
  o.load 1 false x61 H41 fun x62 =>
  o.conv .u64 x62 fun x63 =>
  o.rem x54 x63 fun x64 =>
  (o.loop10 (f28_l3 o K C k42) K y33 y34 y35 y36 y37 y38 y39 y40 x59 x64 H41))
  (o.call (C 25 [y39] H41) fun x150 H151 =>
  o.call (C 35 [y38, y36] H151) fun x152 H153 =>
  o.bstore 0 1 y33 x150 fun c154 =>
  o.bstore 0 1 y34 x152 fun c155 =>
  o.resc 1 true (.box c154) fun r156 =>
  o.resc 1 true (.box c155) fun r157 =>
  some (.tuple [r156, r157], H153)))
def f28 (o : Ops) (K : Nat) (C : CallC) (a0 a1 : SV) (H : Heap) : Rs :=
  o.bbox a0 fun c1 =>
  o.bbox a1 fun c2 =>
  o.lfld 0 (.box c2) fun x3 =>
  o.lloadp 1 false (.box c2) x3 fun x4 =>
  o.len x4 fun x5 =>
  o.lfld 0 (.box c2) fun x6 =>
  o.lloadp 1 false (.box c2) x6 fun x7 =>
  o.lfld 0 (.box c2) fun x8 =>
  o.lloadp 1 false (.box c2) x8 fun x9 =>
  o.len x9 fun x10 =>
  o.sub x10 (.int .i64 1) fun x11 =>
  o.idx 1 x7 x11 fun x12 =>
  o.load 1 false x12 H fun x13 =>
  o.call (C 32 [x13] H) fun x14 H15 =>
  o.lfld 0 (.box c2) fun x16 =>
  o.lloadp 1 false (.box c2) x16 fun x17 =>
  o.call (C 33 [x17, x14, x5] H15) fun x18 H19 =>
  o.lfld 0 (.box c1) fun x20 =>
  o.lloadp 1 false (.box c1) x20 fun x21 =>
  o.lfld 0 (.box c1) fun x22 =>
  o.lloadp 1 false (.box c1) x22 fun x23 =>
  o.len x23 fun x24 =>
  o.add x24 (.int .i64 1) fun x25 =>
  o.call (C 33 [x21, x14, x25] H19) fun x26 H27 =>
  o.len x26 fun x28 =>
  o.sub x28 x5 fun x29 =>
  o.make 1 4 [.int .u32 0] x29 x29 H27 fun x30 H31 =>
  o.sub x29 (.int .i64 1) fun x32 =>
  (o.loop8 (f28_l1 o K C) K (.box [.slice nilSl]) (.box [.slice nilSl]) x5 x14 x18 x26 x30 x32 H31)
/-- (parquet/nat.Nat).Bits -/
def f29 (o : Ops) (K : Nat) (C : CallC) (a0 : SV) (H : Heap) : Rs :=
  o.bbox a0 fun c1 =>
  o.lfld 0 (.box c1) fun x2 =>
  o.lloadp 1 false (.box c1) x2 fun x3 =>
  o.len x3 fun x4 =>
  o.eql x4 (.int .i64 0) fun x5 =>
  (o.cond x5
  (some ((.int .i64 0), H))
  (o.lfld 0 (.box c1) fun x7 =>
  o.lloadp 1 false (.box c1) x7 fun x8 =>
  o.len x8 fun x9 =>
  o.sub x9 (.int .i64 1) fun x10 =>
  o.mul (.int .i64 32) x10 fun x11 =>
  o.lfld 0 (.box c1) fun x12 =>
  o.lloadp 1 false (.box c1) x12 fun x13 =>
  o.lfld 0 (.box c1) fun x14 =>
  o.lloadp 1 false (.box c1) x14 fun x15 =>
  o.len x15 fun x16 =>
  o.sub x16 (.int .i64 1) fun x17 =>
  o.idx 1 x13 x17 fun x18 =>
  o.load 1 false x18 H fun x19 =>
  o.call (C 36 [x19] H) fun x20 H21 =>
  o.add x11 x20 fun x22 =>
  o.rest x22 fun r23 =>
  some (r23, H21)))
/-- parquet/nat.product -/
def f30_l3 (o : Ops) (K : Nat) (C : CallC) (k22 : SV → SV → SV → SV → SV → SV → Heap → Rs) : SV → SV → SV → SV → SV → SV → SV → SV → SV → SV → SV → SV → Heap → (SV → SV → SV → SV → SV → SV → SV → SV → SV → SV → SV → SV → Heap → Rs) → Rs := fun y29 y30 y31 y32 y33 y34 y35 y36 y37 y38 y39 y40 H41 k42 =>
  o.lss y40 y39 fun x43 =>
  (o.cond x43
  (o.idx 1 y38 y40 fun x44 =>
  o.load 1 false x44 H41 fun x45 =>
  o.conv .u64 y33 fun x46 =>
  o.conv .u64 x45 fun x47 =>
  o.mul x46 x47 fun x48 =>
  o.add y32 y40 fun x49 =>
  o.idx 1 y31 x49 fun x50 =>
  o.load 1 false x50 H41 fun x51 =>
  o.conv .u64 x51 fun x52 =>
  o.add x48 x52 fun x53 =>
  o.add y34 x53 fun x54 =>
  o.add y32 y40 fun x55 =>
  o.conv .u32 x54 fun x56 =>
  o.idx 1 y31 x55 fun x57 =>
  o.store 1 x57 x56 H41 fun H59 =>
  o.shr x54 (.int .u64 32) fun x60 =>
  o.add y40 (.int .i64 1) fun x61 =>
  k42 y29 y30 y31 y32 y33 x60 y35 y36 y37 y38 y39 x61 H59)
  (o.lfld 0 y29 fun x62 =>
  o.lloadp 1 false y29 x62 fun x63 =>
  o.len x63 fun x64 =>
  o.add y32 x64 fun x65 =>
  o.conv .u32 y34 fun x66 =>
  o.idx 1 y31 x65 fun x67 =>
  o.store 1 x67 x66 H41 fun H69 =>
  o.add y37 (.int .i64 1) fun x70 =>
  k22 y29 y30 y31 y35 y36 x70 H69))
def f30_l1 (o : Ops) (K : Nat) (C : CallC) : SV → SV → SV → SV → SV → SV → Heap → (SV → SV → SV → SV → SV → SV → Heap → Rs) → Rs := fun y15 y16 y17 y18 y19 y20 H21 k22 =>
  o.lss y20 y19 fun x23 =>
  (o.cond x23
  (o.idx 1 y18 y20 fun x24 =>
  o.load 1 false x24 H21 fun x25 =>
  o.lfld 0 y15 fun x26 =>
  o.lloadp 1 false y15 x26 fun x27 =>
  o.len x27 fun x28 =>
  (o.loop12 (f30_l3 o K C k22) K y15 y16 y17 y20 x25 (.int .u64 0) y18 y19 y20 x27 x28 (.int .i64 0) H21))
  (o.call (C 25 [y17] H21) fun x71 H72 =>
  o.bstore 0 1 y16 x71 fun c73 =>
  o.resc 1 true (.box c73) fun r74 =>
  some (r74, H72)))
def f30 (o : Ops) (K : Nat) (C : CallC) (a0 a1 : SV) (H : Heap) : Rs :=
  o.bbox a0 fun c1 =>
  o.bbox a1 fun c2 =>
  o.lfld 0 (.box c1) fun x3 =>
  o.lloadp 1 false (.box c1) x3 fun x4 =>
  o.len x4 fun x5 =>
  o.lfld 0 (.box c2) fun x6 =>
  o.lloadp 1 false (.box c2) x6 fun x7 =>
  o.len x7 fun x8 =>
  o.add x5 x8 fun x9 =>
  o.make 1 4 [.int .u32 0] x9 x9 H fun x10 H11 =>
  o.lfld 0 (.box c1) fun x12 =>
  o.lloadp 1 false (.box c1) x12 fun x13 =>
  o.len x13 fun x14 =>
  (o.loop6 (f30_l1 o K C) K (.box c2) (.box [.slice nilSl]) x10 x13 x14 (.int .i64 0) H11)
/-- (parquet/nat.Nat).fits -/
def f31 (o : Ops) (K : Nat) (C : CallC) (a0 : SV) (H : Heap) : Rs :=
  o.bbox a0 fun c1 =>
  o.lload 0 1 true (.box c1) fun x2 =>
  o.call (C 29 [x2] H) fun x3 H4 =>
  o.gtr x3 (.int .i64 4096) fun x5 =>
  (o.cond x5
  (o.build [.slice nilSl] [] [] fun x6 =>
  o.bstore 0 1 (.box [.slice nilSl]) x6 fun c7 =>
  o.resc 1 true (.box c7) fun r8 =>
  some (.tuple [r8, (.int .i64 3)], H4))
  (o.lload 0 1 true (.box c1) fun x10 =>
  o.bstore 0 1 (.box [.slice nilSl]) x10 fun c11 =>
  o.resc 1 true (.box c11) fun r12 =>
  some (.tuple [r12, (.int .i64 0)], H4)))
/-- math/bits.LeadingZeros32 -/
def f32 (o : Ops) (K : Nat) (C : CallC) (a0 : SV) (H : Heap) : Rs :=
  o.call (C 36 [a0] H) fun x1 H2 =>
  o.sub (.int .i64 32) x1 fun x3 =>
  o.rest x3 fun r4 =>
  some (r4, H2)
/-- parquet/nat.up -/
def f33_j3 (o : Ops) (K : Nat) (C : CallC) (k11 : SV → SV → SV → SV → SV → SV → Heap → Rs) (q3_0 q3_1 q3_7 q3_8 q3_9 q3_13 q3_14 : SV) (H3_0 : Heap) : Rs :=
  o.conv .u32 q3_8 fun x20 =>
  o.idx 1 q3_7 q3_9 fun x21 =>
  o.store 1 x21 x20 H3_0 fun H23 =>
  o.shr q3_8 (.int .u64 32) fun x24 =>
  o.add q3_14 (.int .i64 1) fun x25 =>
  k11 q3_0 q3_1 q3_7 x24 q3_13 x25 H23
def f33_l1 (o : Ops) (K : Nat) (C : CallC) : SV → SV → SV → SV → SV → SV → Heap → (SV → SV → SV → SV → SV → SV → Heap → Rs) → Rs := fun y4 y5 y6 y7 y8 y9 H10 k11 =>
  o.lss y9 y8 fun x12 =>
  (o.cond x12
  (o.len y4 fun x13 =>
  o.lss y9 x13 fun x14 =>
  (o.cond x14
  (o.idx 1 y4 y9 fun x15 =>
  o.load 1 false x15 H10 fun x16 =>
  o.conv .u64 x16 fun x17 =>
  o.shl x17 y5 fun x18 =>
  o.or y7 x18 fun x19 =>
  (f33_j3 o K C k11 y4 y5 y6 x19 y9 y8 y9 H10))
  ((f33_j3 o K C k11 y4 y5 y6 y7 y9 y8 y9 H10))))
  (o.rest y6 fun r26 =>
  some (r26, H10)))
def f33 (o : Ops) (K : Nat) (C : CallC) (a0 a1 a2 : SV) (H : Heap) : Rs :=
  o.make 1 4 [.int .u32 0] a2 a2 H fun x1 H2 =>
  o.len x1 fun x3 =>
  (o.loop6 (f33_l1 o K C) K a0 a1 x1 (.int .u64 0) x3 (.int .i64 0) H2)
/-- parquet/nat.away -/
def f34_j3 (o : Ops) (K : Nat) (C : CallC) (k10 : SV → SV → SV → SV → SV → SV → SV → Heap → Rs) (q3_0 q3_1 q3_2 q3_7 q3_8 q3_9 q3_11 q3_12 : SV) (H3_0 : Heap) : Rs :=
  o.idx 1 q3_0 q3_9 fun x20 =>
  o.load 1 false x20 H3_0 fun x21 =>
  o.conv .u32 q3_7 fun x22 =>
  o.call (C 37 [x21, x22, q3_8] H3_0) fun x23 H24 =>
  o.ext 0 x23 fun x25 =>
  o.ext 1 x23 fun x26 =>
  o.idx 1 q3_0 q3_9 fun x27 =>
  o.store 1 x27 x25 H24 fun H29 =>
  o.shr q3_7 (.int .u64 32) fun x30 =>
  o.add q3_12 (.int .i64 1) fun x31 =>
  k10 q3_0 q3_1 q3_2 x30 x26 q3_11 x31 H29
def f34_l1 (o : Ops) (K : Nat) (C : CallC) : SV → SV → SV → SV → SV → SV → SV → Heap → (SV → SV → SV → SV → SV → SV → SV → Heap → Rs) → Rs := fun y2 y3 y4 y5 y6 y7 y8 H9 k10 =>
  o.lss y8 y7 fun x11 =>
  (o.cond x11
  (o.len y3 fun x12 =>
  o.lss y8 x12 fun x13 =>
  (o.cond x13
  (o.idx 1 y3 y8 fun x14 =>
  o.load 1 false x14 H9 fun x15 =>
  o.conv .u64 x15 fun x16 =>
  o.conv .u64 y4 fun x17 =>
  o.mul x16 x17 fun x18 =>
  o.add y5 x18 fun x19 =>
  (f34_j3 o K C k10 y2 y3 y4 x19 y6 y8 y7 y8 H9))
  ((f34_j3 o K C k10 y2 y3 y4 y5 y6 y8 y7 y8 H9))))
  (o.neq y6 (.int .u32 0) fun x32 =>
  o.rest x32 fun r33 =>
  some (r33, H9)))
def f34 (o : Ops) (K : Nat) (C : CallC) (a0 a1 a2 : SV) (H : Heap) : Rs :=
  o.len a0 fun x1 =>
  (o.loop7 (f34_l1 o K C) K a0 a1 a2 (.int .u64 0) (.int .u32 0) x1 (.int .i64 0) H)
/-- parquet/nat.down -/
def f35_j3 (o : Ops) (K : Nat) (C : CallC) (k12 : SV → SV → SV → SV → SV → SV → Heap → Rs) (q3_0 q3_1 q3_4 q3_5 q3_6 q3_7 q3_12 q3_13 : SV) (H3_0 : Heap) : Rs :=
  o.shr q3_7 q3_1 fun x26 =>
  o.conv .u32 x26 fun x27 =>
  o.idx 1 q3_5 q3_6 fun x28 =>
  o.store 1 x28 x27 H3_0 fun H30 =>
  o.add q3_13 (.int .i64 1) fun x31 =>
  k12 q3_0 q3_1 q3_4 q3_5 q3_12 x31 H30
def f35_l1 (o : Ops) (K : Nat) (C : CallC) : SV → SV → SV → SV → SV → SV → Heap → (SV → SV → SV → SV → SV → SV → Heap → Rs) → Rs := fun y5 y6 y7 y8 y9 y10 H11 k12 =>
  o.lss y10 y9 fun x13 =>
  (o.cond x13
  (o.idx 1 y5 y10 fun x14 =>
  o.load 1 false x14 H11 fun x15 =>
  o.conv .u64 x15 fun x16 =>
  o.add y10 (.int .i64 1) fun x17 =>
  o.len y5 fun x18 =>
  o.lss x17 x18 fun x19 =>
  (o.cond x19
  (o.add y10 (.int .i64 1) fun x20 =>
  o.idx 1 y5 x20 fun x21 =>
  o.load 1 false x21 H11 fun x22 =>
  o.conv .u64 x22 fun x23 =>
  o.shl x23 (.int .u64 32) fun x24 =>
  o.or x16 x24 fun x25 =>
  (f35_j3 o K C k12 y5 y6 y7 y8 y10 x25 y9 y10 H11))
  ((f35_j3 o K C k12 y5 y6 y7 y8 y10 x16 y9 y10 H11))))
  (o.call (C 25 [y8] H11) fun x32 H33 =>
  o.bstore 0 1 y7 x32 fun c34 =>
  o.resc 1 true (.box c34) fun r35 =>
  some (r35, H33)))
def f35 (o : Ops) (K : Nat) (C : CallC) (a0 a1 : SV) (H : Heap) : Rs :=
  o.len a0 fun x1 =>
  o.make 1 4 [.int .u32 0] x1 x1 H fun x2 H3 =>
  o.len a0 fun x4 =>
  (o.loop6 (f35_l1 o K C) K a0 a1 (.box [.slice nilSl]) x2 x4 (.int .i64 0) H3)
/-- math/bits.Len32 -/
def f36_j2 (o : Ops) (K : Nat) (C : CallC) (q2_0 q2_2 : SV) (H2_0 : Heap) : Rs :=
  o.conv .u8 q2_0 fun x6 =>
  o.stridx (.str [0, 1, 2, 2, 3, 3, 3, 3, 4, 4, 4, 4, 4, 4, 4, 4, 5, 5, 5, 5, 5, 5, 5, 5, 5, 5, 5, 5, 5, 5, 5, 5, 6, 6, 6, 6, 6, 6, 6, 6, 6, 6, 6, 6, 6, 6, 6, 6, 6, 6, 6, 6, 6, 6, 6, 6, 6, 6, 6, 6, 6, 6, 6, 6, 7, 7, 7, 7, 7, 7, 7, 7, 7, 7, 7, 7, 7, 7, 7, 7, 7, 7, 7, 7, 7, 7, 7, 7, 7, 7, 7, 7, 7, 7, 7, 7, 7, 7, 7, 7, 7, 7, 7, 7, 7, 7, 7, 7, 7, 7, 7, 7, 7, 7, 7, 7, 7, 7, 7, 7, 7, 7, 7, 7, 7, 7, 7, 7, 8, 8, 8, 8, 8, 8, 8, 8, 8, 8, 8, 8, 8, 8, 8, 8, 8, 8, 8, 8, 8, 8, 8, 8, 8, 8, 8, 8, 8, 8, 8, 8, 8, 8, 8, 8, 8, 8, 8, 8, 8, 8, 8, 8, 8, 8, 8, 8, 8, 8, 8, 8, 8, 8, 8, 8, 8, 8, 8, 8, 8, 8, 8, 8, 8, 8, 8, 8, 8, 8, 8, 8, 8, 8, 8, 8, 8, 8, 8, 8, 8, 8, 8, 8, 8, 8, 8, 8, 8, 8, 8, 8, 8, 8, 8, 8, 8, 8, 8, 8, 8, 8, 8, 8, 8, 8, 8, 8, 8, 8, 8, 8, 8, 8, 8, 8, 8, 8, 8, 8, 8, 8, 8, 8, 8, 8, 8, 8]) x6 fun x7 =>
  o.conv .i64 x7 fun x8 =>
  o.add q2_2 x8 fun x9 =>
  o.rest x9 fun r10 =>
  some (r10, H2_0)
def f36_j1 (o : Ops) (K : Nat) (C : CallC) (q1_0 q1_2 : SV) (H1_0 : Heap) : Rs :=
  o.geq q1_0 (.int .u32 256) fun x3 =>
  (o.cond x3
  (o.shr q1_0 (.int .u64 8) fun x4 =>
  o.add q1_2 (.int .i64 8) fun x5 =>
  (f36_j2 o K C x4 x5 H1_0))
  ((f36_j2 o K C q1_0 q1_2 H1_0)))
def f36 (o : Ops) (K : Nat) (C : CallC) (a0 : SV) (H : Heap) : Rs :=
  o.geq a0 (.int .u32 65536) fun x1 =>
  (o.cond x1
  (o.shr a0 (.int .u64 16) fun x2 =>
  (f36_j1 o K C x2 (.int .i64 16) H))
  ((f36_j1 o K C a0 (.int .i64 0) H)))
/-- math/bits.Sub32 -/
def f37 (o : Ops) (K : Nat) (C : CallC) (a0 a1 a2 : SV) (H : Heap) : Rs :=
  o.sub a0 a1 fun x1 =>
  o.sub x1 a2 fun x2 =>
  o.u_xor a0 fun x3 =>
  o.and x3 a1 fun x4 =>
  o.xor a0 a1 fun x5 =>
  o.u_xor x5 fun x6 =>
  o.and x6 x2 fun x7 =>
  o.or x4 x7 fun x8 =>
  o.shr x8 (.int .u64 31) fun x9 =>
  o.rest x2 fun r10 =>
  o.rest x9 fun r11 =>
  some (.tuple [r10, r11], H)
end Go.Sh.Of
