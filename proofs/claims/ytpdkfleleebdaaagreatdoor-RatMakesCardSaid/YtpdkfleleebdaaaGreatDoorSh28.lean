/- Contracts: what each operation comes to on values that are known, and words for slices. -/
import Derived.Test.YtpdkfleleebdaaaGreatDoorSh27
set_option linter.unusedVariables false
namespace Go.Sh
open Go
theorem z_len (s : Sl) (k : K1) : slow.len (.slice s) k = k (.int .i64 s.len) := rfl
theorem z_slen (s : List UInt8) (k : K1) : slow.slen (.str s) k = k (.int .i64 s.length) := rfl
theorem z_cond (b : Bool) (A B : Rs) : slow.cond (.bool b) A B = bif b then A else B := by cases b <;> rfl
theorem z_guard (b : Bool) (A B U : Rs) : slow.guard (.bool b) A B U = bif b then A else B := by cases b <;> rfl
theorem z_not (b : Bool) (k : K1) : slow.u_not (.bool b) k = k (.bool (!b)) := rfl
theorem z_bneq (a b : Bool) (k : K1) : slow.b_neq (.bool a) (.bool b) k = k (.bool (!(a == b))) := rfl
theorem z_lss (kd : IntKind) (a b : Int) (k : K1) : slow.lss (.int kd a) (.int kd b) k = k (.bool (decide (a < b))) := by
 show (opP (.bin .lss) [.int kd a, .int kd b]).bind k = _
 rw [bin_eq (by decide) (by decide)]; rfl
theorem z_leq (kd : IntKind) (a b : Int) (k : K1) : slow.leq (.int kd a) (.int kd b) k = k (.bool (decide (a <= b))) := by
 show (opP (.bin .leq) [.int kd a, .int kd b]).bind k = _
 rw [bin_eq (by decide) (by decide)]; rfl
theorem z_gtr (kd : IntKind) (a b : Int) (k : K1) : slow.gtr (.int kd a) (.int kd b) k = k (.bool (decide (a > b))) := by
 show (opP (.bin .gtr) [.int kd a, .int kd b]).bind k = _
 rw [bin_eq (by decide) (by decide)]; rfl
theorem z_geq (kd : IntKind) (a b : Int) (k : K1) : slow.geq (.int kd a) (.int kd b) k = k (.bool (decide (a >= b))) := by
 show (opP (.bin .geq) [.int kd a, .int kd b]).bind k = _
 rw [bin_eq (by decide) (by decide)]; rfl
theorem z_eql (kd : IntKind) (a b : Int) (k : K1) : slow.eql (.int kd a) (.int kd b) k = k (.bool (a == b)) := by
 show (opP (.bin .eql) [.int kd a, .int kd b]).bind k = _
 rw [bin_eq (by decide) (by decide)]; rfl
theorem z_neq (kd : IntKind) (a b : Int) (k : K1) : slow.neq (.int kd a) (.int kd b) k = k (.bool (a != b)) := by
 show (opP (.bin .neq) [.int kd a, .int kd b]).bind k = _
 rw [bin_eq (by decide) (by decide)]; rfl
theorem z_seql (a b : List UInt8) (k : K1) : slow.eql (.str a) (.str b) k = k (.bool (a == b)) := rfl
theorem z_add (kd : IntKind) (a b : Int) (k : K1) : slow.add (.int kd a) (.int kd b) k = k (.int kd (kd.wrap (a + b))) := by
 show (opP (.bin .add) [.int kd a, .int kd b]).bind k = _
 rw [bin_eq (by decide) (by decide)]; rfl
theorem z_sub (kd : IntKind) (a b : Int) (k : K1) : slow.sub (.int kd a) (.int kd b) k = k (.int kd (kd.wrap (a - b))) := by
 show (opP (.bin .sub) [.int kd a, .int kd b]).bind k = _
 rw [bin_eq (by decide) (by decide)]; rfl
theorem z_mul (kd : IntKind) (a b : Int) (k : K1) : slow.mul (.int kd a) (.int kd b) k = k (.int kd (kd.wrap (a * b))) := by
 show (opP (.bin .mul) [.int kd a, .int kd b]).bind k = _
 rw [bin_eq (by decide) (by decide)]; rfl
theorem z_quo (kd : IntKind) (a : Int) {b : Int} (hb : b ≠ 0) (k : K1) : slow.quo (.int kd a) (.int kd b) k = k (.int kd (kd.wrap (a.tdiv b))) := by
 show (opP (.bin .quo) [.int kd a, .int kd b]).bind k = _
 rw [bin_eq (by decide) (by decide)]; simp only [intOp, if_neg hb]; rfl
theorem z_rem (kd : IntKind) (a : Int) {b : Int} (hb : b ≠ 0) (k : K1) : slow.rem (.int kd a) (.int kd b) k = k (.int kd (a.tmod b)) := by
 show (opP (.bin .rem) [.int kd a, .int kd b]).bind k = _
 rw [bin_eq (by decide) (by decide)]; simp only [intOp, if_neg hb]; rfl
theorem z_conv (kd kd' : IntKind) (a : Int) (k : K1) : slow.conv kd' (.int kd a) k = k (.int kd' (kd'.wrap a)) := rfl
theorem z_ext0 (v : SV) (l : List SV) (k : K1) : slow.ext 0 (.tuple (v :: l)) k = k v := rfl
theorem z_ext1 (u v : SV) (l : List SV) (k : K1) : slow.ext 1 (.tuple (u :: v :: l)) k = k v := rfl
theorem z_ext2 (t u v : SV) (l : List SV) (k : K1) : slow.ext 2 (.tuple (t :: u :: v :: l)) k = k v := rfl
theorem z_call (v : SV) (H : Heap) (k : KH) : slow.call (some (v, H)) k = k v H := Eq.trans rfl rfl
theorem z_rest {v : SV} (h : v.good = true) (k : K1) : slow.rest v k = k v := by
 show ((Res.t 0).of v).bind k = _
 simp only [Res.of, h]; rfl
theorem z_rest_int (kd : IntKind) (n : Int) (k : K1) : slow.rest (.int kd n) k = k (.int kd n) := rfl
theorem z_rest_bool (b : Bool) (k : K1) : slow.rest (.bool b) k = k (.bool b) := rfl
theorem z_rest_str (s : List UInt8) (k : K1) : slow.rest (.str s) k = k (.str s) := rfl
theorem z_add64 {a b : Int} (h0 : -9223372036854775808 <= a + b) (h1 : a + b < 9223372036854775808) (k : K1) : slow.add (.int .i64 a) (.int .i64 b) k = k (.int .i64 (a + b)) := by rw [z_add, wrap_i64 h0 h1]
theorem z_sub64 {a b : Int} (h0 : -9223372036854775808 <= a - b) (h1 : a - b < 9223372036854775808) (k : K1) : slow.sub (.int .i64 a) (.int .i64 b) k = k (.int .i64 (a - b)) := by rw [z_sub, wrap_i64 h0 h1]
theorem z_loop2 (F : SV -> SV -> Heap -> (SV -> SV -> Heap -> Rs) -> Rs) (n : Nat) (v0 v1 : SV) (H : Heap) : slow.loop2 F (n + 1) v0 v1 H = F v0 v1 H (slow.loop2 F n) := rfl
theorem z_loop3 (F : SV -> SV -> SV -> Heap -> (SV -> SV -> SV -> Heap -> Rs) -> Rs) (n : Nat) (v0 v1 v2 : SV) (H : Heap) : slow.loop3 F (n + 1) v0 v1 v2 H = F v0 v1 v2 H (slow.loop3 F n) := rfl
theorem z_loop4 (F : SV -> SV -> SV -> SV -> Heap -> (SV -> SV -> SV -> SV -> Heap -> Rs) -> Rs) (n : Nat) (v0 v1 v2 v3 : SV) (H : Heap) : slow.loop4 F (n + 1) v0 v1 v2 v3 H = F v0 v1 v2 v3 H (slow.loop4 F n) := rfl
theorem z_loop5 (F : SV -> SV -> SV -> SV -> SV -> Heap -> (SV -> SV -> SV -> SV -> SV -> Heap -> Rs) -> Rs) (n : Nat) (v0 v1 v2 v3 v4 : SV) (H : Heap) : slow.loop5 F (n + 1) v0 v1 v2 v3 v4 H = F v0 v1 v2 v3 v4 H (slow.loop5 F n) := rfl
theorem z_loop6 (F : SV -> SV -> SV -> SV -> SV -> SV -> Heap -> (SV -> SV -> SV -> SV -> SV -> SV -> Heap -> Rs) -> Rs) (n : Nat) (v0 v1 v2 v3 v4 v5 : SV) (H : Heap) : slow.loop6 F (n + 1) v0 v1 v2 v3 v4 v5 H = F v0 v1 v2 v3 v4 v5 H (slow.loop6 F n) := rfl
theorem z_loop7 (F : SV -> SV -> SV -> SV -> SV -> SV -> SV -> Heap -> (SV -> SV -> SV -> SV -> SV -> SV -> SV -> Heap -> Rs) -> Rs) (n : Nat) (v0 v1 v2 v3 v4 v5 v6 : SV) (H : Heap) : slow.loop7 F (n + 1) v0 v1 v2 v3 v4 v5 v6 H = F v0 v1 v2 v3 v4 v5 v6 H (slow.loop7 F n) := rfl
theorem z_loop8 (F : SV -> SV -> SV -> SV -> SV -> SV -> SV -> SV -> Heap -> (SV -> SV -> SV -> SV -> SV -> SV -> SV -> SV -> Heap -> Rs) -> Rs) (n : Nat) (v0 v1 v2 v3 v4 v5 v6 v7 : SV) (H : Heap) : slow.loop8 F (n + 1) v0 v1 v2 v3 v4 v5 v6 v7 H = F v0 v1 v2 v3 v4 v5 v6 v7 H (slow.loop8 F n) := rfl
theorem z_loop10 (F : SV -> SV -> SV -> SV -> SV -> SV -> SV -> SV -> SV -> SV -> Heap -> (SV -> SV -> SV -> SV -> SV -> SV -> SV -> SV -> SV -> SV -> Heap -> Rs) -> Rs) (n : Nat) (v0 v1 v2 v3 v4 v5 v6 v7 v8 v9 : SV) (H : Heap) : slow.loop10 F (n + 1) v0 v1 v2 v3 v4 v5 v6 v7 v8 v9 H = F v0 v1 v2 v3 v4 v5 v6 v7 v8 v9 H (slow.loop10 F n) := rfl
theorem z_loop12 (F : SV -> SV -> SV -> SV -> SV -> SV -> SV -> SV -> SV -> SV -> SV -> SV -> Heap -> (SV -> SV -> SV -> SV -> SV -> SV -> SV -> SV -> SV -> SV -> SV -> SV -> Heap -> Rs) -> Rs) (n : Nat) (v0 v1 v2 v3 v4 v5 v6 v7 v8 v9 v10 v11 : SV) (H : Heap) : slow.loop12 F (n + 1) v0 v1 v2 v3 v4 v5 v6 v7 v8 v9 v10 v11 H = F v0 v1 v2 v3 v4 v5 v6 v7 v8 v9 v10 v11 H (slow.loop12 F n) := rfl
structure Fr (lo : Nat) (H H' : Heap) : Prop where
 size : H.size <= H'.size
 rows : ∀ r, r < lo -> H'.get r = H.get r
theorem Fr.refl (lo : Nat) (H : Heap) : Fr lo H H := ⟨Nat.le_refl _, fun _ _ => rfl⟩
theorem Fr.trans {lo : Nat} {H H' H'' : Heap} (h : Fr lo H H') (h' : Fr lo H' H'') : Fr lo H H'' := ⟨Nat.le_trans h.size h'.size, fun r hr => (h'.rows r hr).trans (h.rows r hr)⟩
theorem Fr.mono {lo lo' : Nat} {H H' : Heap} (h : Fr lo H H') (hl : lo' <= lo) : Fr lo' H H' := ⟨h.size, fun r hr => h.rows r (Nat.lt_of_lt_of_le hr hl)⟩
abbrev Frame (H H' : Heap) : Prop := Fr H.size H H'
theorem Frame.trans {H H' H'' : Heap} (h : Frame H H') (h' : Frame H' H'') : Frame H H'' := Fr.trans h (Fr.mono h' h.size)
theorem Fr.push {lo : Nat} {H : Heap} (hl : lo <= H.size) (row : Row) : Fr lo H (H.push row) := ⟨by simp [Heap.size_push], fun r hr => Heap.get_push_ne _ _ (by omega)⟩
theorem Fr.set {lo : Nat} {H : Heap} {r : Nat} (hl : lo <= r) (row : Row) : Fr lo H (H.set r row) := ⟨Nat.le_refl _, fun i hi => Heap.get_set_ne _ (by omega) _⟩
def Arr (H : Heap) (v : SV) (cs : List SV) : Prop :=
 ∃ s, v = .slice s /\ s.len = cs.length /\ (cs = [] \/ ∃ r o row, s.base = some (r, o) /\ H.get r = some row /\ row.kind ≠ 0 /\ ∀ i x, cs[i]? = some x -> row.cells[o + i]? = some x)
theorem Arr.fr {H H' : Heap} {v : SV} {cs : List SV} (h : Arr H v cs) (hf : Frame H H') : Arr H' v cs := by
 obtain ⟨s, h1, h2, h3⟩ := h
 refine ⟨s, h1, h2, ?_⟩
 rcases h3 with h3 | ⟨r, o, row, b1, b2, b3, b4⟩
 ·exact .inl h3
 ·exact .inr ⟨r, o, row, b1, by rw [hf.rows r (Heap.get_lt b2)]; exact b2, b3, b4⟩
theorem Arr.nil (H : Heap) : Arr H (.slice nilSl) [] := ⟨nilSl, rfl, rfl, .inl rfl⟩
theorem Arr.len {H : Heap} {v : SV} {cs : List SV} (h : Arr H v cs) (k : K1) : slow.len v k = k (.int .i64 cs.length) := by
 obtain ⟨s, rfl, h2, _⟩ := h
 rw [z_len, h2]
theorem Arr.good {H : Heap} {v : SV} {cs : List SV} (h : Arr H v cs) : v.good = true := by
 obtain ⟨s, rfl, _⟩ := h; rfl
theorem Arr.flat {H : Heap} {v : SV} {cs : List SV} (h : Arr H v cs) : v.flat = true := by
 obtain ⟨s, rfl, _⟩ := h; rfl
theorem beq_ne {a b : Nat} (h : a ≠ b) : Nat.beq a b = false := by
 cases hb : Nat.beq a b with
 | false => rfl
 | true => exact absurd (Nat.eq_of_beq_eq_true hb) h
theorem cut_one {cs : List SV} {i : Nat} {x : SV} (h : cs[i]? = some x) : cut cs i 1 = some [x] := by
 have hlt : i < cs.length := (List.getElem?_eq_some_iff.1 h).1
 have hle : Nat.ble (i + 1) cs.length = true := Nat.ble_eq_true_of_le (by omega)
 simp only [cut, hle, cond_true, List.take_one, List.head?_drop, h]
 rfl
theorem Arr.load {H : Heap} {v : SV} {cs : List SV} (h : Arr H v cs) {i : Nat} {x : SV} (hx : cs[i]? = some x) (kd : IntKind) (k : K1) :
  slow.idx 1 v (.int kd i) (fun p => slow.load 1 false p H k) = k x := by
 obtain ⟨s, rfl, h2, h3⟩ := h
 have hi : i < cs.length := (List.getElem?_eq_some_iff.1 hx).1
 rcases h3 with rfl | ⟨r, o, row, b1, b2, b3, b4⟩
 ·simp at hi
 ·have hc : 0 <= (i : Int) /\ (i : Int) < s.len := ⟨by omega, by rw [h2]; omega⟩
  show (opP (.idx 1) [.slice s, .int kd i]).bind _ = _
  simp only [opP, if_pos hc, b1, Option.bind_some]
  show (opR (.load 1 false) [.ptr (r, o + (i : Int).toNat * 1)] H).bind k = _
  simp only [opR, Heap.read, b2, beq_ne b3, cond_false, Int.toNat_natCast, Nat.mul_one, cut_one (b4 i x hx), shaped, Option.bind_some]
def Own (lo : Nat) (H : Heap) (v : SV) (cs : List SV) : Prop :=
 ∃ base, v = .slice ⟨base, cs.length, none, 0⟩ /\ ((base = none /\ cs = []) \/ ∃ r ver, base = some (r, 0) /\ lo <= r /\ H.get r = some ⟨2, 1, ver, cs⟩)
theorem Own.arr {lo : Nat} {H : Heap} {v : SV} {cs : List SV} (h : Own lo H v cs) : Arr H v cs := by
 obtain ⟨base, rfl, h⟩ := h
 refine ⟨_, rfl, rfl, ?_⟩
 rcases h with ⟨_, h⟩ | ⟨r, ver, rfl, _, h2⟩
 ·exact .inl h
 ·exact .inr ⟨r, 0, _, rfl, h2, by simp, fun i x hx => by simpa using hx⟩
theorem Own.nil (lo : Nat) (H : Heap) : Own lo H (.slice nilSl) [] := ⟨none, rfl, .inl ⟨rfl, rfl⟩⟩
theorem Own.fr {lo : Nat} {H H' : Heap} {v : SV} {cs : List SV} (h : Own lo H v cs) (hf : Frame H H') : Own lo H' v cs := by
 obtain ⟨base, h1, h⟩ := h
 refine ⟨base, h1, ?_⟩
 rcases h with h | ⟨r, ver, e, h2, h3⟩
 ·exact .inl h
 ·exact .inr ⟨r, ver, e, h2, by rw [hf.rows r (Heap.get_lt h3)]; exact h3⟩
def inRow (v : SV) (r : Nat) : Prop := ∃ s o, v = .slice s /\ s.base = some (r, o)
theorem splice_one {cs : List SV} {i : Nat} (h : i < cs.length) (x : SV) : splice cs i [x] = some (cs.set i x) := by
 have hle : Nat.ble (i + 1) cs.length = true := Nat.ble_eq_true_of_le (by omega)
 simp only [splice, List.length_cons, List.length_nil, Nat.zero_add, hle, cond_true]
 congr 1
 rw [List.set_eq_take_append_cons_drop]
 simp [h]
theorem Own.store {lo : Nat} {H : Heap} {v : SV} {cs : List SV} (h : Own lo H v cs) {i : Nat} (hi : i < cs.length) {x : SV} (hx : x.flat = true) (kd : IntKind) :
  ∃ H', (∀ k, slow.idx 1 v (.int kd i) (fun p => slow.store 1 p x H k) = k H') /\ Own lo H' v (cs.set i x) /\ Fr lo H H' /\ H'.size = H.size /\ ∀ r, ¬ inRow v r -> H'.get r = H.get r := by
 obtain ⟨base, rfl, h⟩ := h
 rcases h with ⟨_, rfl⟩ | ⟨r, ver, rfl, h1, h2⟩
 ·simp at hi
 refine ⟨H.set r ⟨2, 1, ver + 1, cs.set i x⟩, fun k => ?_, ⟨some (r, 0), by simp, .inr ⟨r, ver + 1, rfl, h1, Heap.get_set_self h2 _⟩⟩, Fr.set h1 _, rfl, fun r' hr' => Heap.get_set_ne _ (fun e => hr' ⟨_, 0, rfl, by rw [e]⟩) _⟩
 have hc : 0 <= (i : Int) /\ (i : Int) < cs.length := ⟨by omega, by omega⟩
 have hit : x.item = true := by cases x <;> simp_all [SV.item, SV.flat]
 have hce : x.cells = [x] := by cases x <;> simp_all [SV.cells, SV.flat]
 show (opP (.idx 1) [.slice ⟨some (r, 0), cs.length, none, 0⟩, .int kd i]).bind _ = _
 simp only [opP, if_pos hc, Option.bind_some]
 show (opE (.store 1) [.ptr (r, 0 + (i : Int).toNat * 1), x] H).bind _ = _
 have hb1 : Nat.beq ([x] : List SV).length 1 = true := rfl
 have hb2 : Nat.beq 2 2 = true := rfl
 simp only [opE, hit, hce, hb1, Bool.true_and, cond_true, Heap.write, h2, hb2, Int.toNat_natCast, Nat.mul_one, Nat.zero_add, splice_one hi x, Option.map_some, Option.bind_some]
theorem Arr.of_rows {H H' : Heap} {v : SV} {cs : List SV} (h : Arr H v cs) (hr : ∀ r, inRow v r -> H'.get r = H.get r) : Arr H' v cs := by
 obtain ⟨s, rfl, h2, h3⟩ := h
 refine ⟨s, rfl, h2, ?_⟩
 rcases h3 with h3 | ⟨r, o, row, b1, b2, b3, b4⟩
 ·exact .inl h3
 ·exact .inr ⟨r, o, row, b1, by rw [hr r ⟨s, o, rfl, b1⟩]; exact b2, b3, b4⟩
theorem roomy_small {n b : Nat} (h : (4 * n + 4096) * (b + 1) <= 70368744177664) : roomy n b = true := Nat.ble_eq_true_of_le h
theorem rep_one (n : Nat) (z : SV) : repeatL n [z] = List.replicate n z := by
 simp [repeatL]
theorem z_make {H : Heap} {lo : Nat} (hl : lo <= H.size) (by_ : Nat) (z : SV) (n : Nat) (hn : n <= 1099511627776) (hr : roomy n by_ = true) (kl kc : IntKind) :
  ∃ v H', (∀ k, slow.make 1 by_ [z] (.int kl n) (.int kc n) H k = k v H') /\ Own lo H' v (List.replicate n z) /\ Frame H H' /\ inRow v H.size /\ H'.size = H.size + 1 := by
 refine ⟨.slice ⟨some (H.size, 0), n, none, 0⟩, H.push (newRow 1 (List.replicate n z)), fun k => ?_, ⟨some (H.size, 0), by simp, .inr ⟨H.size, 0, rfl, hl, Heap.get_push_self _ _⟩⟩, Fr.push (Nat.le_refl _) _, ⟨_, 0, rfl, rfl⟩, rfl⟩
 show (opE (.make 1 by_ [z]) [.int kl n, .int kc n] H).bind _ = _
 have hc : 0 <= (n : Int) /\ (n : Int) <= n /\ (n : Int) <= 1099511627776 /\ roomy n by_ = true /\ 0 < 1 := ⟨by omega, by omega, by omega, hr, by omega⟩
 simp only [opE, Int.toNat_natCast, if_pos hc, Option.bind_some, rep_one]
theorem z_lay1 {H : Heap} {lo : Nat} (hl : lo <= H.size) (z : SV) {x : SV} (hx : x.flat = true) :
  ∃ v H', (∀ k, slow.hbuild 1 [z] [(0, 1)] [x] H k = k v H') /\ Own lo H' v [x] /\ Frame H H' /\ inRow v H.size /\ H'.size = H.size + 1 := by
 have hit : x.item = true := by cases x <;> simp_all [SV.item, SV.flat]
 have hce : x.cells = [x] := by cases x <;> simp_all [SV.cells, SV.flat]
 refine ⟨.slice ⟨some (H.size, 0), 1, none, 0⟩, H.push (newRow 1 [x]), fun k => ?_, ⟨some (H.size, 0), rfl, .inr ⟨H.size, 0, rfl, hl, Heap.get_push_self _ _⟩⟩, Fr.push (Nat.le_refl _) _, ⟨_, 0, rfl, rfl⟩, rfl⟩
 show (opE (.build 1 [z] [(0, 1)]) [x] H).bind _ = _
 simp only [opE, List.length_cons, List.length_nil, List.zip_cons_cons, List.zip_nil_right, List.map_cons, List.map_nil, fillS, hit, hce]
 rfl
theorem z_lay2 {H : Heap} {lo : Nat} (hl : lo <= H.size) (z z' : SV) {x y : SV} (hx : x.flat = true) (hy : y.flat = true) :
  ∃ v H', (∀ k, slow.hbuild 1 [z, z'] [(0, 1), (1, 1)] [x, y] H k = k v H') /\ Own lo H' v [x, y] /\ Frame H H' /\ inRow v H.size /\ H'.size = H.size + 1 := by
 have hit : x.item = true := by cases x <;> simp_all [SV.item, SV.flat]
 have hce : x.cells = [x] := by cases x <;> simp_all [SV.cells, SV.flat]
 have hit' : y.item = true := by cases y <;> simp_all [SV.item, SV.flat]
 have hce' : y.cells = [y] := by cases y <;> simp_all [SV.cells, SV.flat]
 refine ⟨.slice ⟨some (H.size, 0), 2, none, 0⟩, H.push (newRow 1 [x, y]), fun k => ?_, ⟨some (H.size, 0), rfl, .inr ⟨H.size, 0, rfl, hl, Heap.get_push_self _ _⟩⟩, Fr.push (Nat.le_refl _) _, ⟨_, 0, rfl, rfl⟩, rfl⟩
 show (opE (.build 1 [z, z'] [(0, 1), (1, 1)]) [x, y] H).bind _ = _
 simp only [opE, List.length_cons, List.length_nil, List.zip_cons_cons, List.zip_nil_right, List.map_cons, List.map_nil, fillS, hit, hce, hit', hce']
 rfl
theorem Arr.elems {H : Heap} {v : SV} {cs : List SV} (h : Arr H v cs) : ∃ s, v = .slice s /\ s.len = cs.length /\ H.elems 1 s = some cs := by
 obtain ⟨s, rfl, h2, h3⟩ := h
 refine ⟨s, rfl, h2, ?_⟩
 unfold Heap.elems
 rcases h3 with rfl | ⟨r, o, row, b1, b2, b3, b4⟩
 ·rw [h2]; rfl
 ·cases hb : Nat.beq s.len 0 with
  | true =>
   have := Nat.eq_of_beq_eq_true hb
   rw [h2] at this
   have : cs = [] := List.eq_nil_of_length_eq_zero this
   subst this; rfl
  | false =>
   have hall : ∀ i, i < cs.length -> row.cells[o + i]? = cs[i]? := fun i hi => by
    rw [List.getElem?_eq_getElem hi]
    exact b4 i _ (List.getElem?_eq_getElem hi)
   have hne : s.len ≠ 0 := fun e => by rw [e] at hb; cases hb
   have hlast := b4 (cs.length - 1) _ (List.getElem?_eq_getElem (by omega))
   have hlt : o + (cs.length - 1) < row.cells.length := (List.getElem?_eq_some_iff.1 hlast).1
   have hle : Nat.ble (o + s.len * 1) row.cells.length = true := Nat.ble_eq_true_of_le (by rw [h2]; omega)
   simp only [cond_false, b1, Heap.read, b2, beq_ne b3, cut, hle, cond_true]
   congr 1
   apply List.ext_getElem?
   intro i
   rw [List.getElem?_take, h2, Nat.mul_one]
   split
   ·rw [List.getElem?_drop]; exact hall i (by assumption)
   ·rw [List.getElem?_eq_none (by omega)]
theorem cut_all (cs : List SV) : cut cs 0 cs.length = some cs := by
 have hle : Nat.ble (0 + cs.length) cs.length = true := Nat.ble_eq_true_of_le (by omega)
 simp only [cut, hle, cond_true, List.drop_zero, List.take_length]
theorem Own.append {lo : Nat} {H : Heap} {v w : SV} {cs ys : List SV} (h : Own lo H v cs) (hl : lo <= H.size) (hw : Arr H w ys) {by_ : Nat} (hr : roomy (cs.length + ys.length) by_ = true) :
  ∃ v' H', (∀ k, slow.append 1 by_ v w H k = k v' H') /\ Own lo H' v' (cs ++ ys) /\ Fr lo H H' /\ (∀ r, ¬ inRow v r -> r < H.size -> H'.get r = H.get r) /\ (ys ≠ [] -> inRow v' H.size) /\ (ys = [] -> v' = v /\ H' = H) := by
 obtain ⟨s, rfl, h2, h3⟩ := hw.elems
 obtain ⟨base, rfl, h⟩ := h
 have h1 : Nat.ble 1 1 = true := rfl
 cases ys with
 | nil =>
  refine ⟨.slice ⟨base, cs.length, none, 0⟩, H, fun k => ?_, ⟨base, by simp, by simpa using h⟩, Fr.refl _ _, fun _ _ _ => rfl, fun e => absurd rfl e, fun _ => ⟨rfl, rfl⟩⟩
  show (opE (.append 1 by_) [_, .slice s] H).bind _ = _
  have hr' : roomy (cs.length + s.len) by_ = true := by rw [h2]; exact hr
  have hb0 : Nat.beq s.len 0 = true := by rw [h2]; rfl
  simp only [opE, h3, Option.bind_some, appendOp, h1, hr', hb0, Bool.true_and, cond_true]
 | cons y ys =>
  have hb : Nat.beq s.len 0 = false := beq_ne (by rw [h2]; simp)
  have hr' : roomy (cs.length + s.len) by_ = true := by rw [h2]; exact hr
  rcases h with ⟨rfl, rfl⟩ | ⟨r, ver, rfl, h4, h5⟩
  ·refine ⟨.slice ⟨some (H.size, 0), (y :: ys).length, none, 0⟩, H.push (newRow 1 (y :: ys)), fun k => ?_, ⟨some (H.size, 0), rfl, .inr ⟨H.size, 0, rfl, hl, Heap.get_push_self _ _⟩⟩, Fr.push hl _, fun r _ hr => Heap.get_push_ne _ _ (by omega), fun _ => ⟨_, 0, rfl, rfl⟩, fun e => by cases e⟩
   show (opE (.append 1 by_) [.slice ⟨none, _, none, 0⟩, .slice s] H).bind _ = _
   have hr2 : roomy (0 + s.len) by_ = true := hr'
   simp only [opE, h3, Option.bind_some, appendOp, h1, hr2, hb, Bool.true_and, cond_true, cond_false, List.length_nil]
   rw [h2]
   rfl
  ·have hlt := Heap.get_lt h5
   refine ⟨.slice ⟨some (H.size, 0), (cs ++ y :: ys).length, none, 0⟩, (H.kill r ⟨2, 1, ver, cs⟩).push (newRow 1 (cs ++ y :: ys)), fun k => ?_, ⟨some (H.size, 0), rfl, .inr ⟨H.size, 0, rfl, hl, by exact Heap.get_push_self (H.kill r ⟨2, 1, ver, cs⟩) _⟩⟩, (Fr.set h4 _).trans (Fr.push (by rw [Heap.size_set]; exact hl) _), fun r' hn hr' => ?_, fun _ => ⟨_, 0, rfl, rfl⟩, fun e => by cases e⟩
   ·show (opE (.append 1 by_) [.slice ⟨some (r, 0), _, none, 0⟩, .slice s] H).bind _ = _
    have e0 : Nat.beq (0 % 1) 0 = true := rfl
    have e2 : Nat.beq 2 2 = true := rfl
    have e3 : Nat.beq 1 1 = true := rfl
    simp only [opE, h3, Option.bind_some, appendOp, h1, hr', hb, Bool.true_and, cond_true, cond_false, h5, e2, e3, e0, capRoom, Nat.mul_one, cut_all, Option.map_some]
    rw [h2]
    simp [Heap.kill]
   ·have hne : r ≠ r' := fun e => hn ⟨_, 0, rfl, by rw [e]⟩
    rw [Heap.get_push_ne _ _ (by show r' ≠ H.size; omega)]
    exact Heap.get_set_ne _ hne _
end Go.Sh
