/- Contracts: words for machine's numbers that are natural, for digits, for slices that are written. -/
import Derived.Test.YtpdkfleleebdaaaGreatDoorSh29
set_option linter.unusedVariables false
set_option linter.unusedSimpArgs false
namespace Go.Sh
open Go
abbrev u8 (n : Nat) : SV := .int .u8 (n : Int)
abbrev u32 (n : Nat) : SV := .int .u32 (n : Int)
abbrev u64 (n : Nat) : SV := .int .u64 (n : Int)
abbrev i64 (n : Nat) : SV := .int .i64 (n : Int)
theorem wrap_u (kd : IntKind) (hs : kd.signed = false) (n : Nat) : kd.wrap (n : Int) = ((n % 2 ^ kd.bits : Nat) : Int) := by
 unfold IntKind.wrap
 rw [hs]
 simp [Int.natCast_emod, Int.natCast_pow]
theorem wrap_u32 (n : Nat) : IntKind.wrap .u32 (n : Int) = ((n % 4294967296 : Nat) : Int) := wrap_u .u32 rfl n
theorem wrap_u64 (n : Nat) : IntKind.wrap .u64 (n : Int) = ((n % 18446744073709551616 : Nat) : Int) := wrap_u .u64 rfl n
theorem wrap_u8 (n : Nat) : IntKind.wrap .u8 (n : Int) = ((n % 256 : Nat) : Int) := wrap_u .u8 rfl n
theorem wrap_i (n : Nat) (h : n < 9223372036854775808) : IntKind.wrap .i64 (n : Int) = (n : Int) := wrap_i64 (by omega) (by omega)
section
variable (k : K1)
theorem n_conv32 (kd : IntKind) (n : Nat) : slow.conv .u32 (.int kd n) k = k (u32 (n % 4294967296)) := by rw [z_conv, wrap_u32]
theorem n_conv64 (kd : IntKind) (n : Nat) (h : n < 18446744073709551616) : slow.conv .u64 (.int kd n) k = k (u64 n) := by rw [z_conv, wrap_u64, Nat.mod_eq_of_lt h]
theorem n_conv8 (kd : IntKind) (n : Nat) : slow.conv .u8 (.int kd n) k = k (u8 (n % 256)) := by rw [z_conv, wrap_u8]
theorem n_convi (kd : IntKind) (n : Nat) (h : n < 9223372036854775808) : slow.conv .i64 (.int kd n) k = k (i64 n) := by rw [z_conv, wrap_i n h]
theorem n_add64 {a b : Nat} (h : a + b < 18446744073709551616) : slow.add (u64 a) (u64 b) k = k (u64 (a + b)) := by
 rw [z_add, show ((a : Int) + (b : Int)) = ((a + b : Nat) : Int) by omega, wrap_u64, Nat.mod_eq_of_lt h]
theorem n_mul64 {a b : Nat} (h : a * b < 18446744073709551616) : slow.mul (u64 a) (u64 b) k = k (u64 (a * b)) := by
 rw [z_mul, show ((a : Int) * (b : Int)) = ((a * b : Nat) : Int) by simp, wrap_u64, Nat.mod_eq_of_lt h]
theorem n_sub64 {a b : Nat} (hb : b <= a) (h : a < 18446744073709551616) : slow.sub (u64 a) (u64 b) k = k (u64 (a - b)) := by
 rw [z_sub, show ((a : Int) - (b : Int)) = ((a - b : Nat) : Int) by omega, wrap_u64, Nat.mod_eq_of_lt (by omega)]
theorem n_sub32 {a b : Nat} (ha : a < 4294967296) (hb : b < 4294967296) : slow.sub (u32 a) (u32 b) k = k (u32 ((a + 4294967296 - b) % 4294967296)) := by
 have e : IntKind.wrap .u32 ((a : Int) - (b : Int)) = (((a + 4294967296 - b) % 4294967296 : Nat) : Int) := by
  rw [<- wrap_u32]
  simp only [IntKind.wrap, IntKind.signed, IntKind.bits, Bool.false_and, Bool.false_eq_true, if_false]
  omega
 rw [z_sub, e]
theorem n_add32 (a b : Nat) : slow.add (u32 a) (u32 b) k = k (u32 ((a + b) % 4294967296)) := by
 rw [z_add, show ((a : Int) + (b : Int)) = ((a + b : Nat) : Int) by omega, wrap_u32]
theorem n_addi {a b : Nat} (h : a + b < 9223372036854775808) : slow.add (i64 a) (i64 b) k = k (i64 (a + b)) := by
 rw [z_add, show ((a : Int) + (b : Int)) = ((a + b : Nat) : Int) by omega, wrap_i _ h]
theorem n_subi {a b : Nat} (hb : b <= a) (h : a < 9223372036854775808) : slow.sub (i64 a) (i64 b) k = k (i64 (a - b)) := by
 rw [z_sub, show ((a : Int) - (b : Int)) = ((a - b : Nat) : Int) by omega, wrap_i _ (by omega)]
theorem n_muli {a b : Nat} (h : a * b < 9223372036854775808) : slow.mul (i64 a) (i64 b) k = k (i64 (a * b)) := by
 rw [z_mul, show ((a : Int) * (b : Int)) = ((a * b : Nat) : Int) by simp, wrap_i _ h]
theorem n_quo (kd : IntKind) (a : Nat) {b : Nat} (hb : b ≠ 0) (ha : kd.wrap ((a / b : Nat) : Int) = ((a / b : Nat) : Int)) : slow.quo (.int kd a) (.int kd b) k = k (.int kd ((a / b : Nat) : Int)) := by
 rw [z_quo kd _ (by omega), <- Int.ofNat_tdiv, ha]
theorem n_quo64 (a : Nat) {b : Nat} (hb : b ≠ 0) (ha : a < 18446744073709551616) : slow.quo (u64 a) (u64 b) k = k (u64 (a / b)) :=
 n_quo k .u64 a hb (by rw [wrap_u64, Nat.mod_eq_of_lt (Nat.lt_of_le_of_lt (Nat.div_le_self _ _) ha)])
theorem n_quo32 (a : Nat) {b : Nat} (hb : b ≠ 0) (ha : a < 4294967296) : slow.quo (u32 a) (u32 b) k = k (u32 (a / b)) :=
 n_quo k .u32 a hb (by rw [wrap_u32, Nat.mod_eq_of_lt (Nat.lt_of_le_of_lt (Nat.div_le_self _ _) ha)])
theorem n_rem (kd : IntKind) (a : Nat) {b : Nat} (hb : b ≠ 0) : slow.rem (.int kd a) (.int kd b) k = k (.int kd ((a % b : Nat) : Int)) := by
 rw [z_rem kd _ (by omega), <- Int.ofNat_tmod]
theorem n_shr (kd kd' : IntKind) (a b : Nat) (hb : b <= kd.bits) : slow.shr (.int kd a) (.int kd' b) k = k (.int kd ((a / 2 ^ b : Nat) : Int)) := by
 show (opP (.bin .shr) [.int kd a, .int kd' b]).bind k = _
 simp only [opP, binOp, shiftOp]
 rw [if_neg (by omega)]
 simp only [Option.bind_some, Int.toNat_natCast, Nat.min_eq_left hb]
 have : ((2 : Int) ^ b) = ((2 ^ b : Nat) : Int) := by simp [Int.natCast_pow]
 rw [this, Int.fdiv_eq_ediv_of_nonneg _ (Int.natCast_nonneg _)]
 exact congrArg (fun z => k (.int kd z)) (Int.natCast_ediv a (2 ^ b)).symm
theorem n_shl64 (kd' : IntKind) (a b : Nat) (hb : b <= 64) (h : a * 2 ^ b < 18446744073709551616) : slow.shl (u64 a) (.int kd' b) k = k (u64 (a * 2 ^ b)) := by
 show (opP (.bin .shl) [u64 a, .int kd' b]).bind k = _
 simp only [opP, binOp, shiftOp]
 rw [if_neg (by omega)]
 have hm : min b IntKind.u64.bits = b := Nat.min_eq_left hb
 simp only [Option.bind_some, Int.toNat_natCast, hm, wrapB]
 have : ((a : Int) * (2 : Int) ^ b) = ((a * 2 ^ b : Nat) : Int) := by simp [Int.natCast_pow]
 rw [this, wrap_u64, Nat.mod_eq_of_lt h]
theorem n_or64 {a b : Nat} (ha : a < 18446744073709551616) (hb : b < 18446744073709551616) : slow.or (u64 a) (u64 b) k = k (u64 (a ||| b)) := by
 rw [<- qOr_eq]
 show nK .u64 (.ofNat (Nat.lor (Nat.mod a (Nat.pow 2 64)) (Nat.mod b (Nat.pow 2 64)))) k = _
 have e : Nat.lor (Nat.mod a (Nat.pow 2 64)) (Nat.mod b (Nat.pow 2 64)) = a ||| b := by
  show (a % 2 ^ 64) ||| (b % 2 ^ 64) = a ||| b
  rw [Nat.mod_eq_of_lt ha, Nat.mod_eq_of_lt hb]
 have hlt : (a ||| b) < 18446744073709551616 := Nat.or_lt_two_pow (n := 64) ha hb
 rw [nK_eq, e, wrapB, Int.ofNat_eq_natCast, wrap_u64, Nat.mod_eq_of_lt hlt]
theorem or_add (a b : Nat) (hb : b < 4294967296) : a * 4294967296 ||| b = a * 4294967296 + b := by
 have h : b < 2 ^ 32 := hb
 have := Nat.two_pow_add_eq_or_of_lt h a
 rw [show a * 4294967296 = 2 ^ 32 * a by omega]
 exact this.symm
theorem n_lss (kd : IntKind) (a b : Nat) : slow.lss (.int kd a) (.int kd b) k = k (.bool (decide (a < b))) := by rw [z_lss]; exact congrArg (fun z => k (.bool z)) (decide_eq_decide.2 (by omega))
theorem n_gtr (kd : IntKind) (a b : Nat) : slow.gtr (.int kd a) (.int kd b) k = k (.bool (decide (a > b))) := by rw [z_gtr]; exact congrArg (fun z => k (.bool z)) (decide_eq_decide.2 (by omega))
theorem n_geq (kd : IntKind) (a b : Nat) : slow.geq (.int kd a) (.int kd b) k = k (.bool (decide (a >= b))) := by rw [z_geq]; exact congrArg (fun z => k (.bool z)) (decide_eq_decide.2 (by omega))
theorem n_eql (kd : IntKind) (a b : Nat) : slow.eql (.int kd a) (.int kd b) k = k (.bool (decide (a = b))) := by
 rw [z_eql]
 exact congrArg (fun z => k (.bool z)) (by rw [Bool.eq_iff_iff, beq_iff_eq, decide_eq_true_eq]; omega)
theorem n_neq (kd : IntKind) (a b : Nat) : slow.neq (.int kd a) (.int kd b) k = k (.bool (decide (a ≠ b))) := by
 rw [z_neq]
 exact congrArg (fun z => k (.bool z)) (by rw [Bool.eq_iff_iff, bne_iff_ne, decide_eq_true_eq]; omega)
theorem z_stridx {s : List UInt8} {n : Nat} {b : UInt8} (h : s[n]? = some b) (kd : IntKind) : slow.stridx (.str s) (.int kd n) k = k (u8 b.toNat) := by
 show (opP .stridx [.str s, .int kd n]).bind k = _
 simp only [opP, if_pos (Int.natCast_nonneg n), Int.toNat_natCast, h, Option.bind_some]
theorem z_bbox (cs : List SV) (k : KL) : slow.bbox (.agg cs) k = k cs := rfl
theorem z_lfld (off : Nat) (cs : List SV) : slow.lfld off (.box cs) k = k (.lptr off) := rfl
theorem z_lld0 (x : SV) (l : List SV) : slow.lloadp 1 false (.box (x :: l)) (.lptr 0) k = k x := by
 show (opP (.lloadp 1 false) [.box (x :: l), .lptr 0]).bind k = _
 simp only [opP, cut_one (cs := x :: l) (i := 0) rfl, Option.bind_some, shaped]
theorem z_lld1 (x y : SV) (l : List SV) : slow.lloadp 1 false (.box (x :: y :: l)) (.lptr 1) k = k y := by
 show (opP (.lloadp 1 false) [.box (x :: y :: l), .lptr 1]).bind k = _
 simp only [opP, cut_one (cs := x :: y :: l) (i := 1) rfl, Option.bind_some, shaped]
theorem z_lload1 (x : SV) : slow.lload 0 1 true (.box [x]) k = k (.agg [x]) := rfl
theorem z_bst1 (x y : SV) (k : KL) : slow.bstore 0 1 (.box [y]) (.agg [x]) k = k [x] := rfl
theorem z_resc1 (x : SV) : slow.resc 1 true (.box [x]) k = k (.agg [x]) := rfl
theorem z_build0 (z : List SV) : slow.build z [] [] k = k (.agg z) := rfl
theorem z_build1 (z : SV) {x : SV} (hx : x.flat = true) : slow.build [z] [(0, 1)] [x] k = k (.agg [x]) := by
 have hit : x.item = true := by cases x <;> simp_all [SV.item, SV.flat]
 have hce : x.cells = [x] := by cases x <;> simp_all [SV.cells, SV.flat]
 show (opP (.build [z] [(0, 1)]) [x]).bind k = _
 simp only [opP, List.length_cons, List.length_nil, List.zip_cons_cons, List.zip_nil_right, List.map_cons, List.map_nil, fillS, hit, hce]
 rfl
theorem z_field0 (x : SV) (l : List SV) : slow.fieldv 0 1 false (.agg (x :: l)) k = k x := by
 show (opP (.fieldv 0 1 false) [.agg (x :: l)]).bind k = _
 simp only [opP, cut_one (cs := x :: l) (i := 0) rfl, Option.bind_some, shaped]
end
def Wr (lo : Nat) (H : Heap) (v : SV) (r : Nat) (pre cs post : List SV) : Prop :=
 ∃ cap alt ver, v = .slice ⟨some (r, pre.length), cs.length, cap, alt⟩ /\ lo <= r /\ H.get r = some ⟨2, 1, ver, pre ++ (cs ++ post)⟩
theorem Wr.arr {lo : Nat} {H : Heap} {v : SV} {r : Nat} {pre cs post : List SV} (h : Wr lo H v r pre cs post) : Arr H v cs := by
 obtain ⟨cap, alt, ver, rfl, _, h2⟩ := h
 refine ⟨_, rfl, rfl, .inr ⟨r, pre.length, _, rfl, h2, by simp, fun i x hx => ?_⟩⟩
 have hi := (List.getElem?_eq_some_iff.1 hx).1
 rw [List.getElem?_append_right (by omega), Nat.add_sub_cancel_left, List.getElem?_append_left hi]
 exact hx
theorem Wr.fr {lo : Nat} {H H' : Heap} {v : SV} {r : Nat} {pre cs post : List SV} (h : Wr lo H v r pre cs post) (hf : Frame H H') : Wr lo H' v r pre cs post := by
 obtain ⟨cap, alt, ver, h1, h2, h3⟩ := h
 exact ⟨cap, alt, ver, h1, h2, by rw [hf.rows r (Heap.get_lt h3)]; exact h3⟩
theorem Wr.row {lo : Nat} {H H' : Heap} {v : SV} {r : Nat} {pre cs post : List SV} (h : Wr lo H v r pre cs post) (hf : H'.get r = H.get r) : Wr lo H' v r pre cs post := by
 obtain ⟨cap, alt, ver, h1, h2, h3⟩ := h
 exact ⟨cap, alt, ver, h1, h2, by rw [hf]; exact h3⟩
theorem Wr.lt {lo : Nat} {H : Heap} {v : SV} {r : Nat} {pre cs post : List SV} (h : Wr lo H v r pre cs post) : r < H.size := by
 obtain ⟨cap, alt, ver, h1, h2, h3⟩ := h
 exact Heap.get_lt h3
theorem Wr.store {lo : Nat} {H : Heap} {v : SV} {r : Nat} {pre cs post : List SV} (h : Wr lo H v r pre cs post) {i : Nat} (hi : i < cs.length) {x : SV} (hx : x.flat = true) (kd : IntKind) :
  ∃ H', (∀ k, slow.idx 1 v (.int kd i) (fun p => slow.store 1 p x H k) = k H') /\ Wr lo H' v r pre (cs.set i x) post /\ Fr lo H H' /\ H'.size = H.size /\ ∀ r', r' ≠ r -> H'.get r' = H.get r' := by
 obtain ⟨cap, alt, ver, rfl, h1, h2⟩ := h
 have hset : (pre ++ (cs ++ post)).set (pre.length + i) x = pre ++ (cs.set i x ++ post) := by
  rw [List.set_append_right _ _ (by omega), Nat.add_sub_cancel_left, List.set_append_left _ _ hi]
 refine ⟨H.set r ⟨2, 1, ver + 1, pre ++ (cs.set i x ++ post)⟩, fun k => ?_, ⟨cap, alt, ver + 1, by simp, h1, Heap.get_set_self h2 _⟩, Fr.set h1 _, rfl, fun r' hr' => Heap.get_set_ne _ (Ne.symm hr') _⟩
 have hc : 0 <= (i : Int) /\ (i : Int) < cs.length := ⟨by omega, by omega⟩
 have hit : x.item = true := by cases x <;> simp_all [SV.item, SV.flat]
 have hce : x.cells = [x] := by cases x <;> simp_all [SV.cells, SV.flat]
 show (opP (.idx 1) [.slice ⟨some (r, pre.length), cs.length, cap, alt⟩, .int kd i]).bind _ = _
 simp only [opP, if_pos hc, Option.bind_some]
 show (opE (.store 1) [.ptr (r, pre.length + (i : Int).toNat * 1), x] H).bind _ = _
 have hb1 : Nat.beq ([x] : List SV).length 1 = true := rfl
 have hb2 : Nat.beq 2 2 = true := rfl
 simp only [opE, hit, hce, hb1, Bool.true_and, cond_true, Heap.write, h2, hb2, Int.toNat_natCast, Nat.mul_one, splice_one (cs := pre ++ (cs ++ post)) (i := pre.length + i) (by simp; omega) x, Option.map_some, Option.bind_some, hset]
theorem Own.wr {lo : Nat} {H : Heap} {v : SV} {cs : List SV} (h : Own lo H v cs) (hne : cs ≠ []) : ∃ r, Wr lo H v r [] cs [] := by
 obtain ⟨base, rfl, h⟩ := h
 rcases h with ⟨_, h⟩ | ⟨r, ver, rfl, h1, h2⟩
 ·exact absurd h hne
 ·exact ⟨r, none, 0, ver, rfl, h1, by simpa using h2⟩
def Root (v : SV) : Prop := ∃ s, v = .slice s /\ (s.base.map (·.2) = some s.alt \/ s.base = none)
theorem Own.root {lo : Nat} {H : Heap} {v : SV} {cs : List SV} (h : Own lo H v cs) : Root v := by
 obtain ⟨base, rfl, h⟩ := h
 rcases h with ⟨rfl, _⟩ | ⟨r, ver, rfl, _⟩
 ·exact ⟨_, rfl, .inr rfl⟩
 ·exact ⟨_, rfl, .inl rfl⟩
theorem Arr.slice011 {H : Heap} {v : SV} {cs : List SV} (h : Arr H v cs) {n : Nat} (hn : n <= cs.length) (hr : 0 < n \/ Root v) (ka kb : IntKind) :
  ∃ v', (∀ k, slow.slice011 1 v (.int ka n) (.int kb n) H k = k v') /\ Arr H v' (cs.take n) /\ (Root v -> Root v') /\ v'.flat = true /\ 
   ∀ lo r pre post, Wr lo H v r pre cs post -> Wr lo H v' r pre (cs.take n) (cs.drop n ++ post) := by
 obtain ⟨s, rfl, h2, h3⟩ := h
 have hfit : fitsCap H 1 s n = true := by
  unfold fitsCap
  rw [decide_eq_true (by rw [h2]; omega)]
  rfl
 have hroot : (0 : Int) < n \/ s.base.map (·.2) = some s.alt \/ s.base = none := by
  rcases hr with hr | ⟨s', e, hr⟩
  ·exact .inl (by omega)
  ·cases e; exact .inr hr
 refine ⟨.slice { s with len := n, cap := some n }, fun k => ?_, ⟨_, rfl, by simp; omega, ?_⟩, fun ⟨s', e, hr⟩ => by cases e; exact ⟨_, rfl, hr⟩, rfl, ?_⟩
 ·show (opR (.slice 1 false true true) [.slice s, .int ka n, .int kb n] H).bind k = _
  simp only [opR, sliceOp, loOf]
  rw [if_pos ⟨by omega, by omega, by omega, hfit, hroot⟩]
  simp [subSl]
 ·rcases h3 with rfl | ⟨r, o, row, b1, b2, b3, b4⟩
  ·left; simp
  ·right
   refine ⟨r, o, row, b1, b2, b3, fun i x hx => ?_⟩
   rw [List.getElem?_take] at hx
   split at hx
   ·exact b4 i x hx
   ·cases hx
 ·intro lo r pre post ⟨cap, alt, ver, e, h4, h5⟩
  cases e
  exact ⟨some n, alt, ver, by simp [Nat.min_eq_left hn], h4, by rw [<- List.append_assoc (cs.take n), List.take_append_drop]; exact h5⟩
def B : Nat := 4294967296
def digs (n : Nat) : List Nat := if h : n = 0 then [] else n % B :: digs (n / B)
termination_by n
decreasing_by exact Nat.div_lt_self (Nat.pos_of_ne_zero h) (by decide)
def val : List Nat -> Nat
 | [] => 0
 | d :: ds => d + B * val ds
def Small (ds : List Nat) : Prop := ∀ d ∈ ds, d < B
theorem digs_zero : digs 0 = [] := by rw [digs]; rfl
theorem digs_pos {n : Nat} (h : n ≠ 0) : digs n = n % B :: digs (n / B) := by rw [digs, dif_neg h]
theorem val_digs (n : Nat) : val (digs n) = n := by
 induction n using Nat.strongRecOn with
 | ind n ih =>
  by_cases h : n = 0
  ·subst h; rw [digs_zero]; rfl
  ·rw [digs_pos h, val, ih (n / B) (Nat.div_lt_self (Nat.pos_of_ne_zero h) (by decide))]
   exact Nat.mod_add_div n B
theorem digs_small (n : Nat) : Small (digs n) := by
 induction n using Nat.strongRecOn with
 | ind n ih =>
  by_cases h : n = 0
  ·subst h; rw [digs_zero]; intro d hd; cases hd
  ·rw [digs_pos h]
   intro d hd
   rcases List.mem_cons.1 hd with rfl | hd
   ·exact Nat.mod_lt _ (by decide)
   ·exact ih (n / B) (Nat.div_lt_self (Nat.pos_of_ne_zero h) (by decide)) d hd
theorem val_append (a b : List Nat) : val (a ++ b) = val a + B ^ a.length * val b := by
 induction a with
 | nil => simp [val]
 | cons d a ih => simp only [List.cons_append, val, ih, List.length_cons, Nat.pow_succ, Nat.mul_add, Nat.add_assoc]; congr 1; congr 1; rw [Nat.mul_comm (B ^ a.length) B, Nat.mul_assoc]
theorem val_lt {ds : List Nat} (h : Small ds) : val ds < B ^ ds.length := by
 induction ds with
 | nil => simp [val]
 | cons d ds ih =>
  have h1 := h d (by simp)
  have h2 := ih fun x hx => h x (by simp [hx])
  simp only [val, List.length_cons, Nat.pow_succ]
  have : B * val ds + B <= B * B ^ ds.length := by
   rw [<- Nat.mul_succ]
   exact Nat.mul_le_mul_left _ h2
  rw [Nat.mul_comm (B ^ ds.length) B]
  omega
theorem val_zeros (n : Nat) : val (List.replicate n 0) = 0 := by
 induction n with
 | zero => rfl
 | succ n ih => simp [List.replicate_succ, val, ih]
theorem digs_val {ds : List Nat} (h : Small ds) (hl : ∀ d, ds.getLast? = some d -> d ≠ 0) : digs (val ds) = ds := by
 induction ds with
 | nil => exact digs_zero
 | cons d ds ih =>
  have h1 := h d (by simp)
  have h2 : Small ds := fun x hx => h x (by simp [hx])
  have hne : val (d :: ds) ≠ 0 := by
   cases ds with
   | nil =>
    have := hl d rfl
    simp only [val]; omega
   | cons e es =>
    have hd := ih h2 fun x hx => hl x (by rw [List.getLast?_cons_cons]; exact hx)
    intro e0
    have h0 : val (e :: es) = 0 := by
     simp only [val] at e0 ⊢
     have : B * (e + B * val es) = 0 := by omega
     exact (Nat.mul_eq_zero.1 this).resolve_left (by decide)
    rw [h0, digs_zero] at hd
    cases hd
  rw [digs_pos hne]
  have e1 : val (d :: ds) % B = d := by
   simp only [val]
   rw [Nat.add_mul_mod_self_left]
   exact Nat.mod_eq_of_lt h1
  have e2 : val (d :: ds) / B = val ds := by
   simp only [val]
   rw [Nat.add_mul_div_left _ _ (by decide), Nat.div_eq_of_lt h1, Nat.zero_add]
  rw [e1, e2]
  cases ds with
  | nil => rw [show val [] = 0 from rfl, digs_zero]
  | cons e es => rw [ih h2 fun x hx => hl x (by rw [List.getLast?_cons_cons]; exact hx)]
abbrev limbs (ds : List Nat) : List SV := ds.map u32
def IsNat (H : Heap) (v : SV) (n : Nat) : Prop := ∃ sl, v = .agg [sl] /\ Arr H sl (limbs (digs n)) /\ sl.flat = true
theorem IsNat.fr {H H' : Heap} {v : SV} {n : Nat} (h : IsNat H v n) (hf : Frame H H') : IsNat H' v n := by
 obtain ⟨sl, h1, h2, h3⟩ := h
 exact ⟨sl, h1, h2.fr hf, h3⟩
def bl (n : Nat) : Nat := if n = 0 then 0 else Nat.log2 n + 1
theorem bl_le {n k : Nat} : bl n <= k ↔ n < 2 ^ k := by
 unfold bl
 split
 ·rename_i h; subst h; simp [Nat.two_pow_pos]
 ·rename_i h; rw [Nat.succ_le_iff, Nat.log2_lt h]
theorem bl_shift {n k : Nat} (h : 2 ^ k <= n) : bl n = k + bl (n / 2 ^ k) := by
 have hp : 0 < 2 ^ k := Nat.two_pow_pos k
 apply Nat.le_antisymm
 ·rw [bl_le, Nat.pow_add, Nat.mul_comm]
  have : n / 2 ^ k < 2 ^ bl (n / 2 ^ k) := bl_le.1 (Nat.le_refl _)
  exact (Nat.div_lt_iff_lt_mul hp).1 this
 ·have h1 : n < 2 ^ bl n := bl_le.1 (Nat.le_refl _)
  have hk : k <= bl n := by
   apply Nat.le_of_lt
   apply Nat.lt_of_not_le
   intro hle
   have := bl_le.1 hle
   omega
  have : bl (n / 2 ^ k) <= bl n - k := by
   rw [bl_le, Nat.div_lt_iff_lt_mul hp, <- Nat.pow_add, Nat.sub_add_cancel hk]
   exact h1
  omega
theorem bl_digs {n : Nat} (h : n ≠ 0) : ∃ d, (digs n).getLast? = some d /\ d ≠ 0 /\ d < B /\ bl n = 32 * ((digs n).length - 1) + bl d := by
 induction n using Nat.strongRecOn with
 | ind n ih =>
  rw [digs_pos h]
  by_cases h0 : n / B = 0
  ·rw [h0, digs_zero]
   have hlt : n < B := (Nat.div_eq_zero_iff.1 h0).resolve_left (by decide)
   refine ⟨n % B, rfl, ?_, Nat.mod_lt _ (by decide), ?_⟩
   ·rw [Nat.mod_eq_of_lt hlt]; exact h
   ·rw [Nat.mod_eq_of_lt hlt]; simp
  ·obtain ⟨d, h1, h2, h3, h4⟩ := ih (n / B) (Nat.div_lt_self (Nat.pos_of_ne_zero h) (by decide)) h0
   have hne : digs (n / B) ≠ [] := fun e => by rw [e] at h1; cases h1
   refine ⟨d, ?_, h2, h3, ?_⟩
   ·cases hd : digs (n / B) with
    | nil => exact absurd hd hne
    | cons x l => rw [List.getLast?_cons_cons, <- hd]; exact h1
   ·have hge : 2 ^ 32 <= n := by
     have : B <= n := Nat.le_of_not_lt fun hlt => h0 (Nat.div_eq_of_lt hlt)
     exact this
    rw [bl_shift hge]
    show 32 + bl (n / B) = _
    rw [h4]
    have : 0 < (digs (n / B)).length := List.length_pos_iff.2 hne
    simp only [List.length_cons]
    omega
theorem digs_len_le {n k : Nat} (h : n < B ^ k) : (digs n).length <= k := by
  induction k generalizing n with
  | zero => have : n = 0 := by simpa using h
            subst this; rw [digs_zero]; simp
  | succ k ih =>
    by_cases h0 : n = 0
    · subst h0; rw [digs_zero]; simp
    · rw [digs_pos h0, List.length_cons]
      have : n / B < B ^ k := by rw [Nat.div_lt_iff_lt_mul (by decide), <- Nat.pow_succ]; exact h
      exact Nat.succ_le_succ (ih this)
theorem digs_nil {n : Nat} : digs n = [] ↔ n = 0 := by
 constructor
 ·intro h
  have := val_digs n
  rw [h] at this
  exact this.symm
 ·rintro rfl; exact digs_zero
theorem pow_B {m k : Nat} (h : 32 * m = k) : B ^ m = 2 ^ k := by
 subst h
 rw [Nat.pow_mul]
 rfl
theorem pow_B2 {m k l : Nat} (h : 32 * m = k + l) : B ^ m = 2 ^ k * 2 ^ l := by rw [<- Nat.pow_add]; exact pow_B h
theorem pow_mono2 (a b : Nat) (h : a <= b) : 2 ^ a <= 2 ^ b := Nat.pow_le_pow_right (by decide) h
theorem digs_len {n : Nat} (h : n < 2 ^ 4096) : (digs n).length <= 128 := digs_len_le (k := 128) (by
 rw [pow_B (k := 4096) rfl]; exact h)
end Go.Sh
