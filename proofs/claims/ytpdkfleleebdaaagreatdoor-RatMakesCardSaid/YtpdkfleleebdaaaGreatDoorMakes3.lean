/- RatMakes: the walk. -/
import Derived.Test.YtpdkfleleebdaaaGreatDoorRatB
set_option linter.unusedVariables false
set_option linter.unusedSimpArgs false
set_option exponentiation.threshold 20000
namespace Go.Sh.Of
open Go Go.Sh
def QL (q : Rat) : Prop := q.num.natAbs < 2 ^ 4096 /\ q.den < 2 ^ 4096
theorem qtextL_ok (K : Nat) (hK : 10000 < K) (d : Nat) (H : Heap) {v : SV} {q : Rat} (hv : IsQ H v q) (hq : QL q) :
  ∃ H', runQ wk tab slow K (d + 6) 9 [v] H = some (.str (textQ q), H') /\ Frame H H' := by
 have hv' := hv
 obtain ⟨b, s, t, rfl, i1, i2⟩ := hv
 have hp := q.den_pos
 have ln := hq.1
 have ld := hq.2
 have hl : (digs (q.den - 1)).length < 10000 := dg_len (by omega)
 have hb := bits_ok K (d + 3) H i2 (by omega)
 have hbz : bl (q.den - 1) = 0 ↔ q.den = 1 := by
  unfold bl
  split <;> omega
 show ∃ H', f9 slow K (runQ wk tab slow K (d + 5)) _ H = _ /\ _
 by_cases h1 : q.den = 1
 ·obtain ⟨H1, g1, f1⟩ := ztext_ok K hK (d + 2) H i1 ln
  refine ⟨H1, ?_, f1⟩
  have e : ∀ k, slow.eql (i64 (bl (q.den - 1))) (.int .i64 0) k = k (.bool true) := fun k => by rw [show (SV.int .i64 0) = i64 0 from rfl, n_eql, decide_eq_true (hbz.2 h1)]
  unfold textQ
  rw [if_pos h1]
  simp only [f9, z_bbox, z_lfld, z_lld3n, hb, z_call, e, z_cond, cond_true, z_lld3i, g1, z_rest_str]
 ·obtain ⟨H1, g1, f1⟩ := ztext_ok K hK (d + 2) H i1 ln
  obtain ⟨r, H2, g2, f2, n2⟩ := den_ok K (by omega) d H1 (hv'.fr f1) ld
  have hdl := dec_bits ld
  have hgl := dg_len ld
  obtain ⟨H3, g3, f3⟩ := text_ok K (d + 3) H2 n2 (by omega) (by omega) (by omega) (by omega) (by omega)
  refine ⟨H3, ?_, Frame.trans f1 (Frame.trans f2 f3)⟩
  have e : ∀ k, slow.eql (i64 (bl (q.den - 1))) (.int .i64 0) k = k (.bool false) := fun k => by rw [show (SV.int .i64 0) = i64 0 from rfl, n_eql, decide_eq_false (mt hbz.1 h1)]
  have lz : (textZ q.num).length <= 5000 := by
   unfold textZ
   have := dec_bits ln
   have := dec_len q.num.natAbs
   split <;> (try rw [List.length_cons]) <;> omega
  have ldd : (dec q.den).length <= 5000 := by
   have := dec_len q.den
   omega
  have a1 : ∀ k, slow.add (.str (textZ q.num)) (.str [47]) k = k (.str (textZ q.num ++ [47])) := fun k => z_sadd k (by rw [List.length_singleton]; omega)
  have a2 : ∀ k, slow.add (.str (textZ q.num ++ [47])) (.str (dec q.den)) k = k (.str (textZ q.num ++ [47] ++ dec q.den)) := fun k => z_sadd k (by rw [List.length_append, List.length_singleton]; omega)
  unfold textQ
  rw [if_neg h1]
  simp only [f9, z_bbox, z_lfld, z_lld3n, hb, z_call, e, z_cond, cond_false, z_lld3i, g1, a1, z_lload3, g2, g3, a2, z_rest_str, List.append_assoc, List.singleton_append]
theorem rqtextL_j (K : Nat) (hK : 3000000 < K) (d : Nat) {H : Heap} {q : Rat} {x y : SV} {t : Sl} (ht : IsR H (.slice t) q.den) (hq : QL q) :
  ∃ H', f10_j1 slow K (runQ wk tab slow K (d + 6)) (.box [x, y, .slice t]) (.str (textZ q.num)) (.bool (decide (q.den ≠ 1))) H = some (.str (textQ q), H') /\ Frame H H' := by
 by_cases h : q.den = 1
 ·refine ⟨H, ?_, Fr.refl _ _⟩
  rw [decide_eq_false (by simpa using h)]
  unfold textQ
  rw [if_pos h]
  simp only [f10_j1, z_cond, cond_false, f10_j2, z_rest_str]
 ·have ln := hq.1
  have ld := hq.2
  have k1 := big_rd ld
  have k2 := dec_bits ld
  obtain ⟨H1, h1, f1⟩ := rtext_ok K (d + 1) H ht hK (by omega) (by omega)
  refine ⟨H1, ?_, f1⟩
  have lz : (textZ q.num).length <= 5000 := by
   unfold textZ
   have := dec_bits ln
   have := dec_len q.num.natAbs
   split <;> (try rw [List.length_cons]) <;> omega
  have ldd : (dec q.den).length <= 5000 := by
   have := dec_len q.den
   omega
  have a1 : ∀ k, slow.add (.str (textZ q.num)) (.str [47]) k = k (.str (textZ q.num ++ [47])) := fun k => z_sadd k (by rw [List.length_singleton]; omega)
  have a2 : ∀ k, slow.add (.str (textZ q.num ++ [47])) (.str (dec q.den)) k = k (.str (textZ q.num ++ [47] ++ dec q.den)) := fun k => z_sadd k (by rw [List.length_append, List.length_singleton]; omega)
  rw [decide_eq_true (by simpa using h)]
  unfold textQ
  rw [if_neg h]
  simp only [f10_j1, z_cond, cond_true, a1, z_lfld, z_lld3, h1, z_call, a2, f10_j2, z_rest_str, List.append_assoc, List.singleton_append]
theorem rqtextL_run (K d : Nat) (H : Heap) (v : SV) : runQ wk tab slow K (d + 7) 10 [v] H = f10 slow K (runQ wk tab slow K (d + 6)) v H := Eq.trans rfl rfl
theorem rqtextL_ok (K : Nat) (hK : 3000000 < K) (d : Nat) (H : Heap) {v : SV} {q : Rat} (hv : IsQR H v q) (hq : QL q) :
  ∃ H', runQ wk tab slow K (d + 7) 10 [v] H = some (.str (textQ q), H') /\ Frame H H' := by
 obtain ⟨s, t, rfl, h1, h2⟩ := hv
 have hp := q.den_pos
 obtain ⟨H1, g1, f1⟩ := rwhole_ok K hK d H h1 hq.1
 have h2' := h2.fr f1
 obtain ⟨H2, g2, f2⟩ := rqtextL_j K hK d (x := .bool (decide (q.num < 0))) (y := .slice s) h2' hq
 refine ⟨H2, ?_, Frame.trans f1 f2⟩
 rw [rqtextL_run]
 by_cases hD : q.den < D
 ·have ed : rdigs q.den = [q.den] := by
   rw [rdigs_pos (by omega), Nat.div_eq_of_lt hD, rdigs_zero, Nat.mod_eq_of_lt hD]
  have e1 : ∀ k, slow.gtr (i64 (rdigs q.den).length) (.int .i64 1) k = k (.bool false) := fun k => by rw [ed, z_gtr]; rfl
  have e2 : ∀ k, slow.eql (i64 (rdigs q.den).length) (.int .i64 1) k = k (.bool true) := fun k => by rw [ed, z_eql]; rfl
  have e3 := Arr.load h2' (i := 0) (x := u32 q.den) (by rw [ed]; rfl) .i64
  have e4 : decide (q.den > 1) = decide (q.den ≠ 1) := decide_eq_decide.2 (by omega)
  have e5 : ∀ k, slow.gtr (u32 q.den) (.int .u32 1) k = k (.bool (decide (q.den ≠ 1))) := fun k => by rw [show (SV.int .u32 1) = u32 1 from rfl, n_gtr, e4]
  have e3' : ∀ k, slow.idx 1 (.slice t) (.int .i64 0) (fun p => slow.load 1 false p H1 k) = k (u32 q.den) := e3
  simp only [f10, z_bbox, z_lfld, z_lld0, z_lld1, g1, z_call, z_lld3, rlen h2', e1, z_guard, cond_false, e2, cond_true, e3', e5]
  exact g2
 ·have e0 : 1 < (rdigs q.den).length := by
   rw [rdigs_pos (by omega), List.length_cons]
   have : 0 < (rdigs (q.den / D)).length := List.length_pos_iff.2 fun e => by
    have := rdigs_nil.1 e
    have := Nat.div_pos (a := q.den) (b := D) (by omega) (by decide)
    omega
   omega
  have e1 : ∀ k, slow.gtr (i64 (rdigs q.den).length) (.int .i64 1) k = k (.bool true) := fun k => by rw [show (SV.int .i64 1) = i64 1 from rfl, n_gtr, decide_eq_true e0]
  have hne : q.den ≠ 1 := fun e => hD (by rw [e]; decide)
  rw [decide_eq_true hne] at g2
  simp only [f10, z_bbox, z_lfld, z_lld0, z_lld1, g1, z_call, z_lld3, rlen h2', e1, z_guard, cond_true]
  exact g2
theorem QL.mk {z : Int} {n : Nat} (hn : 0 < n) (hz : z.natAbs < 2 ^ 4096) (hn' : n < 2 ^ 4096) : QL (mkRat z n) := by
 refine ⟨?_, ?_⟩
 ·rw [mk_abs hn]
  exact Nat.lt_of_le_of_lt (Nat.div_le_self _ _) hz
 ·rw [mk_den hn]
  exact Nat.lt_of_le_of_lt (Nat.div_le_self _ _) hn'
theorem QL.int {z : Int} (hz : z.natAbs < 2 ^ 4096) : QL (z : Rat) := ⟨by rw [Rat.num_intCast]; exact hz, by rw [Rat.den_intCast]; exact Nat.one_lt_two_pow (by decide)⟩
theorem textQ_int (z : Int) : textQ (z : Rat) = textZ z := by
 unfold textQ
 rw [Rat.den_intCast, if_pos rfl, Rat.num_intCast]
theorem textQ_zero : textQ 0 = [48] := by
 have : textQ ((0 : Int) : Rat) = [48] := by
  rw [textQ_int]
  rfl
 exact this
theorem qmakeL_run (K d : Nat) (H : Heap) (v w : SV) : runQ wk tab slow K (d + 7) 7 [v, w] H = f7 slow K (runQ wk tab slow K (d + 6)) v w H := Eq.trans rfl rfl
theorem qmakeL_no (K : Nat) (d : Nat) (H : Heap) {v w : SV} {a : Int} (hv : IsInt H v a) (hw : IsInt H w 0) :
  runQ wk tab slow K (d + 7) 7 [v, w] H = some (.tuple [.agg [.bool false, .slice nilSl, .slice nilSl], .int .i64 11], H) := by
 have hs := zsign_ok K (d + 3) H hw (by decide)
 rw [show d + 3 + 3 = d + 6 from rfl, show signZ 0 = 0 from rfl] at hs
 obtain ⟨x, rfl, _⟩ := id hv
 obtain ⟨y, rfl, _⟩ := id hw
 rw [qmakeL_run]
 have e1 : ((0 : Int) == 0) = true := rfl
 simp only [f7, z_bbox, z_lload2, hs, z_call, z_eql, e1, z_cond, cond_true, z_build0, z_bst3, z_resc3]
theorem qmakeL_ok (K : Nat) (hK : 200000 < K) (d : Nat) (H : Heap) {v w : SV} {a b : Int} (hv : IsInt H v a) (hw : IsInt H w b) (hb : b ≠ 0) (ha' : a.natAbs < 2 ^ 4096) (hb' : b.natAbs < 2 ^ 4096) :
  ∃ r H', runQ wk tab slow K (d + 7) 7 [v, w] H = some (.tuple [r, .int .i64 0], H') /\ Frame H H' /\ IsQ H' r (mkRat (if b < 0 then -a else a) b.natAbs) := by
 have hs := zsign_ok K (d + 3) H hw hb'
 rw [show d + 3 + 3 = d + 6 from rfl] at hs
 obtain ⟨n, h1, n1⟩ := zabs_ok K (d + 5) H hw
 rw [show d + 5 + 1 = d + 6 from rfl] at h1
 have e1 : (signZ b == 0) = false := by
  rw [beq_eq_false_iff_ne]
  unfold signZ
  rw [if_neg hb]
  split <;> omega
 rw [qmakeL_run]
 by_cases hn : b < 0
 ·obtain ⟨m, h2, i2⟩ := zneg_ok K (d + 2) H hv ha'
  rw [show d + 2 + 4 = d + 6 from rfl] at h2
  obtain ⟨r, H1, h3, fr1, ir⟩ := low_ok K hK d H i2 n1 (Int.natAbs_pos.2 hb) (by rw [Int.natAbs_neg]; exact ha') hb'
  obtain ⟨x, rfl, _⟩ := id hv
  obtain ⟨y, rfl, _⟩ := id hw
  obtain ⟨m', rfl, _⟩ := id i2
  obtain ⟨p, q, t, rfl, _⟩ := id ir
  refine ⟨_, H1, ?_, fr1, by rw [if_pos hn]; exact ir⟩
  have e2 : decide (signZ b < 0) = true := decide_eq_true (by unfold signZ; rw [if_neg hb, if_pos hn]; decide)
  simp only [f7, z_bbox, z_lload2, hs, z_call, z_eql, e1, z_cond, cond_false, z_lss, e2, cond_true, h2, z_bst2, f7_j2, h1, h3, z_bst3, z_resc3]
 ·obtain ⟨r, H1, h3, fr1, ir⟩ := low_ok K hK d H hv n1 (Int.natAbs_pos.2 hb) ha' hb'
  obtain ⟨x, rfl, _⟩ := id hv
  obtain ⟨y, rfl, _⟩ := id hw
  obtain ⟨p, q, t, rfl, _⟩ := id ir
  refine ⟨_, H1, ?_, fr1, by rw [if_neg hn]; exact ir⟩
  have e2 : decide (signZ b < 0) = false := decide_eq_false (by unfold signZ; rw [if_neg hb, if_neg hn]; decide)
  simp only [f7, z_bbox, z_lload2, hs, z_call, z_eql, e1, z_cond, cond_false, z_lss, e2, f7_j2, h1, h3, z_bst3, z_resc3]
theorem rmake_run (K d : Nat) (H : Heap) (x v y w : SV) : runQ wk tab slow K (d + 7) 8 [x, v, y, w] H = f8 slow K (runQ wk tab slow K (d + 6)) x v y w H := Eq.trans rfl rfl
theorem rmake_no (K : Nat) (d : Nat) (H : Heap) (x y : Bool) {v w : SV} (hw : IsR H w 0) : runQ wk tab slow K (d + 7) 8 [.bool x, v, .bool y, w] H = some (.tuple [.agg [.bool false, .slice nilSl, .slice nilSl], .bool false], H) := by
 rw [rmake_run]
 have e1 : ∀ k, slow.eql (i64 (rdigs 0).length) (.int .i64 0) k = k (.bool true) := fun k => by rw [rdigs_zero, z_eql]; rfl
 simp only [f8, rlen hw, e1, z_cond, cond_true, z_build0, z_bst3, z_resc3]
theorem rmake_ok (K : Nat) (hK : 3000000 < K) (d : Nat) (H : Heap) (x y : Bool) {v w : SV} {a b : Nat} (hv : IsR H v a) (hw : IsR H w b) (hb : 0 < b) (ha' : a < 2 ^ 4096) (hb' : b < 2 ^ 4096) :
  ∃ r H', runQ wk tab slow K (d + 7) 8 [.bool x, v, .bool y, w] H = some (.tuple [r, .bool true], H') /\ Frame H H' /\ IsQR H' r (mkRat (sgn (!(x == y)) a) b) := by
 have hne : (rdigs b).length ≠ 0 := fun h => by
  have := rdigs_nil.1 (List.eq_nil_of_length_eq_zero h)
  omega
 have e1 : ∀ k, slow.eql (i64 (rdigs b).length) (.int .i64 0) k = k (.bool false) := fun k => by rw [show (SV.int .i64 0) = i64 0 from rfl, n_eql, decide_eq_false hne]
 obtain ⟨r, H1, h1, fr1, ir⟩ := rlow_ok K hK d H (!(x == y)) hv hw hb ha' hb'
 obtain ⟨s, t, rfl, _⟩ := id ir
 refine ⟨_, H1, ?_, fr1, ir⟩
 rw [rmake_run]
 simp only [f8, rlen hw, e1, z_cond, cond_false, z_bneq, h1, z_call, z_bst3, z_resc3]
def okW (s : List UInt8) : Bool := digitsB (bodyS s) && (!(s == [45, 48]) && decide (valS 0 (bodyS s) < 2 ^ 4096))
def negW (s : List UInt8) : Bool := decide (s.head? = some 45)
theorem whole3_j3 (K : Nat) (hK : 3000000 < K) (d : Nat) (H : Heap) {s : List UInt8} (hl : s.length <= 8192) (hB : digitsB (bodyS s) = true) (hne : s ≠ [45, 48]) :
  ∃ x y r H', f6_j3 slow K (runQ wk tab slow K (d + 6)) (.str s) (.box [.bool false, .slice nilSl]) (.bool (negW s)) (.str (bodyS s)) (.bool false) H = some (.tuple [.agg [x, y], .bool (okW s && negW s), r, .bool (okW s)], H') /\ Frame H H' /\ (okW s = true -> IsInt H' (.agg [x, y]) (sgn (negW s) (valS 0 (bodyS s))) /\ IsR H' r (valS 0 (bodyS s))) := by
 obtain ⟨r, H1, h1, fr1, hsl, ir⟩ := rparse01_ok K hK (d + 2) H hB
 rw [show d + 2 + 4 = d + 6 from rfl] at h1
 have hb : (s == [45, 48]) = false := beq_eq_false_iff_ne.2 hne
 by_cases hv : valS 0 (bodyS s) < 2 ^ 4096
 ·have hok : okW s = true := by
   unfold okW
   rw [hB, hb, decide_eq_true hv]
   rfl
  obtain ⟨z, H2, h2, fr2, iz⟩ := zparse_ok K (by omega) (d + 1) H1 (s := s) (by omega) (by omega)
  rw [show d + 1 + 5 = d + 6 from rfl] at h2
  have e1 : errS s = 0 := by
   unfold errS errN
   rw [if_neg hne, if_pos hB, if_pos hv]
  have e2 : numS s = sgn (negW s) (valS 0 (bodyS s)) := by
   unfold numS numN negW
   rw [if_neg hne, hB, decide_eq_true hv]
   rfl
  rw [e1] at h2
  rw [e2] at iz
  obtain ⟨y, rfl, hy, hyf⟩ := id iz
  have hg : r.good = true := (ir hv).good
  refine ⟨_, _, r, H2, ?_, Frame.trans fr1 fr2, fun _ => ⟨iz, (ir hv).fr fr2⟩⟩
  rw [decide_eq_true hv] at h1
  have b0 : ((0 : Int) == 0) = true := rfl
  simp only [f6_j3, z_cond, cond_false, h1, z_call, z_ext0, z_ext1, z_not, Bool.not_true, h2, z_bst2, z_lload2, z_eql, b0, z_resc2, z_rest_bool, z_rest hg, hok, Bool.true_and]
 ·have hok : okW s = false := by
   unfold okW
   rw [decide_eq_false hv]
   simp
  refine ⟨.bool false, .slice nilSl, .slice nilSl, H1, ?_, fr1, fun h => by rw [hok] at h; cases h⟩
  rw [decide_eq_false hv] at h1
  simp only [f6_j3, z_cond, cond_false, h1, z_call, z_ext0, z_ext1, z_not, Bool.not_false, cond_true, z_build0, z_bst2, z_resc2, hok, Bool.false_and]
theorem whole3_run (K d : Nat) (H : Heap) (v : SV) : runQ wk tab slow K (d + 7) 6 [v] H = f6 slow K (runQ wk tab slow K (d + 6)) v H := Eq.trans rfl rfl
theorem whole3_j2 (K : Nat) (hK : 3000000 < K) (d : Nat) (H : Heap) {s : List UInt8} (hl : s.length <= 8192) :
  ∃ x y r H', f6_j2 slow K (runQ wk tab slow K (d + 6)) (.str s) (.box [.bool false, .slice nilSl]) (.bool (negW s)) (.str (bodyS s)) H = some (.tuple [.agg [x, y], .bool (okW s && negW s), r, .bool (okW s)], H') /\ Frame H H' /\ (okW s = true -> IsInt H' (.agg [x, y]) (sgn (negW s) (valS 0 (bodyS s))) /\ IsR H' r (valS 0 (bodyS s))) := by
 have hbl : (bodyS s).length <= 8192 := by
  unfold bodyS
  split
  ·rw [List.length_drop]; omega
  ·exact hl
 have h1 := rdigits_ok K (d + 5) H (s := bodyS s) (by omega) (by omega)
 rw [show d + 5 + 1 = d + 6 from rfl] at h1
 have bad : okW s = false -> f6_j3 slow K (runQ wk tab slow K (d + 6)) (.str s) (.box [.bool false, .slice nilSl]) (.bool (negW s)) (.str (bodyS s)) (.bool true) H = some (.tuple [.agg [.bool false, .slice nilSl], .bool (okW s && negW s), .slice nilSl, .bool (okW s)], H) := fun h => by
  simp only [f6_j3, z_cond, cond_true, z_build0, z_bst2, z_resc2, h, Bool.false_and]
 by_cases hB : digitsB (bodyS s) = true
 ·rw [hB] at h1
  by_cases hn : negW s = true
  ·by_cases h0 : bodyS s = [48]
   ·have hs : s = [45, 48] := by
     have hh : s.head? = some 45 := of_decide_eq_true hn
     unfold bodyS at h0
     rw [if_pos hh] at h0
     cases s with
     | nil => cases hh
     | cons c s =>
      simp at hh h0
      rw [hh, h0]
    have hok : okW s = false := by
     unfold okW
     rw [hs]
     simp
    refine ⟨.bool false, .slice nilSl, .slice nilSl, H, ?_, Fr.refl _ _, fun h => by rw [hok] at h; cases h⟩
    have e : (bodyS s == [48]) = true := by rw [h0]; rfl
    simp only [f6_j2, h1, z_call, z_not, Bool.not_true, z_guard, cond_false, hn, cond_true, z_seql, e]
    have := bad hok
    rw [hn] at this
    exact this
   ·have hne : s ≠ [45, 48] := fun e => h0 (by rw [e]; rfl)
    have e : (bodyS s == [48]) = false := beq_eq_false_iff_ne.2 h0
    obtain ⟨x, y, r, H', h2, g⟩ := whole3_j3 K hK d H hl hB hne
    refine ⟨x, y, r, H', ?_, g⟩
    rw [hn] at h2 ⊢
    simp only [f6_j2, h1, z_call, z_not, Bool.not_true, z_guard, cond_false, cond_true, z_seql, e]
    exact h2
  ·have hn' : negW s = false := by simpa using hn
   have hne : s ≠ [45, 48] := fun e => hn (by rw [e]; rfl)
   obtain ⟨x, y, r, H', h2, g⟩ := whole3_j3 K hK d H hl hB hne
   refine ⟨x, y, r, H', ?_, g⟩
   rw [hn'] at h2 ⊢
   simp only [f6_j2, h1, z_call, z_not, Bool.not_true, z_guard, cond_false]
   exact h2
 ·have hB' : digitsB (bodyS s) = false := by simpa using hB
  rw [hB'] at h1
  have hok : okW s = false := by
   unfold okW
   rw [hB']
   rfl
  refine ⟨.bool false, .slice nilSl, .slice nilSl, H, ?_, Fr.refl _ _, fun h => by rw [hok] at h; cases h⟩
  simp only [f6_j2, h1, z_call, z_not, Bool.not_false, z_guard, cond_true]
  exact bad hok
theorem whole3_ok (K : Nat) (hK : 3000000 < K) (d : Nat) (H : Heap) {s : List UInt8} (hl : s.length <= 8192) :
  ∃ x y r H', runQ wk tab slow K (d + 7) 6 [.str s] H = some (.tuple [.agg [x, y], .bool (okW s && negW s), r, .bool (okW s)], H') /\ Frame H H' /\ (okW s = true -> IsInt H' (.agg [x, y]) (sgn (negW s) (valS 0 (bodyS s))) /\ IsR H' r (valS 0 (bodyS s))) := by
 obtain ⟨x, y, r, H', h2, g⟩ := whole3_j2 K hK d H hl
 refine ⟨x, y, r, H', ?_, g⟩
 rw [whole3_run]
 simp only [f6, z_slen]
 by_cases h0 : s.length > 0
 ·obtain ⟨c, hc⟩ : ∃ c, s[0]? = some c := ⟨_, List.getElem?_eq_getElem (by omega)⟩
  have hst : ∀ k, slow.stridx (.str s) (.int .i64 0) k = k (u8 c.toNat) := fun k => z_stridx (n := 0) k hc .i64
  have hhd : s.head? = some c := by rw [<- hc]; cases s <;> rfl
  have g0 : ∀ k, slow.gtr (.int .i64 s.length) (.int .i64 0) k = k (.bool true) := fun k => by rw [show (SV.int .i64 0) = i64 0 from rfl, n_gtr, decide_eq_true h0]
  have e0 : ∀ k, slow.eql (u8 c.toNat) (.int .u8 45) k = k (.bool (negW s)) := fun k => by
   rw [show (SV.int .u8 45) = u8 45 from rfl, n_eql]
   have : decide (c.toNat = 45) = negW s := by
    unfold negW
    rw [hhd]
    exact decide_eq_decide.2 ⟨fun h => by rw [show c = 45 from UInt8.toNat.inj h], fun h => by rw [Option.some.inj h]; rfl⟩
   rw [this]
  simp only [g0, z_guard, cond_true, hst, e0, f6_j1]
  by_cases hn : negW s = true
  ·have hb : bodyS s = s.drop 1 := by
    unfold bodyS
    rw [if_pos (of_decide_eq_true hn)]
   have hc1 : ∀ k, slow.strcut10 (.str s) (.int .i64 1) k = k (.str (s.drop 1)) := fun k => z_strcut10 (n := 1) (by omega) .i64 k
   rw [hn] at h2 ⊢
   simp only [z_cond, cond_true, hc1]
   rw [hb] at h2
   exact h2
  ·have hn' : negW s = false := by simpa using hn
   have hb : bodyS s = s := by
    unfold bodyS
    rw [if_neg (of_decide_eq_false hn')]
   rw [hn'] at h2 ⊢
   simp only [z_cond, cond_false]
   rw [hb] at h2
   exact h2
 ·have hs : s = [] := List.eq_nil_of_length_eq_zero (by omega)
  subst hs
  have g0 : ∀ k, slow.gtr (.int .i64 ([] : List UInt8).length) (.int .i64 0) k = k (.bool false) := fun k => by rw [z_gtr]; rfl
  simp only [g0, z_guard, cond_false, f6_j1, z_cond]
  exact h2
theorem beyond3_loop (C : CallC) (K : Nat) {H : Heap} {v : SV} {ss : List (List UInt8)} (hv : Arr H v (ss.map SV.str)) (hs : ss.length <= 1000) : ∀ (m i fuel : Nat), i + m = ss.length -> m < fuel -> (∀ (q : Nat) s, q < i -> ss[q]? = some s -> s.length <= 8192) ->
  (slow.loop3 (f5_l1 slow K C) fuel v (i64 ss.length) (i64 i) H = some (.bool true, H)) \/ ((∀ s ∈ ss, s.length <= 8192) /\ slow.loop3 (f5_l1 slow K C) fuel v (i64 ss.length) (i64 i) H = some (.bool false, H))
 | 0, i, fuel, him, hf, hd => by
  obtain ⟨fuel, rfl⟩ : ∃ q, fuel = q + 1 := ⟨fuel - 1, by omega⟩
  have hlt : ¬ i < ss.length := by omega
  refine .inr ⟨fun s hs => ?_, ?_⟩
  ·obtain ⟨q, hq⟩ := List.getElem?_of_mem hs
   exact hd q s (by have := (List.getElem?_eq_some_iff.1 hq).1; omega) hq
  ·rw [z_loop3]
   simp only [f5_l1, n_lss, decide_eq_false hlt, z_cond, cond_false]
 | m + 1, i, fuel, him, hf, hd => by
  obtain ⟨fuel, rfl⟩ : ∃ q, fuel = q + 1 := ⟨fuel - 1, by omega⟩
  have hlt : i < ss.length := by omega
  obtain ⟨s, hsi⟩ : ∃ s, ss[i]? = some s := ⟨_, List.getElem?_eq_getElem hlt⟩
  have hl : ∀ k, slow.idx 1 v (i64 i) (fun p => slow.load 1 false p H k) = k (.str s) := fun k => hv.load (by simp [hsi]) .i64 k
  have g : ∀ k, slow.gtr (.int .i64 s.length) (.int .i64 8192) k = k (.bool (decide (s.length > 8192))) := fun k => n_gtr k .i64 s.length 8192
  rw [z_loop3]
  simp only [f5_l1, n_lss, decide_eq_true hlt, z_cond, cond_true, hl, z_slen, g]
  by_cases hb : s.length > 8192
  ·left
   rw [decide_eq_true hb]
   rfl
  ·rw [decide_eq_false hb]
   simp only [cond_false, u_inc (show i < 1000000 by omega)]
   exact beyond3_loop C K hv hs m (i + 1) fuel (by omega) (by omega) fun q s' hq hs' => by
    by_cases e : q = i
    ·subst e
     rw [hsi] at hs'
     cases hs'
     omega
    ·exact hd q s' (by omega) hs'
theorem beyond3_ok (K : Nat) (hK : 2000 < K) (d : Nat) (H : Heap) {v : SV} {ss : List (List UInt8)} (hv : Arr H v (ss.map SV.str)) (hs : ss.length <= 1000) :
  runQ wk tab slow K (d + 1) 5 [v] H = some (.bool true, H) \/ ((∀ s ∈ ss, s.length <= 8192) /\ runQ wk tab slow K (d + 1) 5 [v] H = some (.bool false, H)) := by
 have e : runQ wk tab slow K (d + 1) 5 [v] H = slow.loop3 (f5_l1 slow K (runQ wk tab slow K d)) K v (i64 ss.length) (i64 0) H := by
  show f5 slow K (runQ wk tab slow K d) v H = _
  simp only [f5, hv.len, List.length_map]
  rfl
 rw [e]
 exact beyond3_loop _ K hv hs ss.length 0 K (by omega) (by omega) fun q s hq => by omega
theorem val_pos {s : List UInt8} (h : okW s = true) (hn : negW s = true) : 0 < valS 0 (bodyS s) := by
 unfold okW at h
 simp only [Bool.and_eq_true, Bool.not_eq_true', decide_eq_true_eq] at h
 obtain ⟨hB, hne, _⟩ := h
 have hh : s.head? = some 45 := of_decide_eq_true hn
 by_cases hl : 1 < (bodyS s).length
 ·have := digitsB_big hB hl
  have : 0 < 10 ^ ((bodyS s).length - 1) := Nat.pow_pos (by decide)
  omega
 ·cases hb : bodyS s with
  | nil => rw [hb] at hB; cases hB
  | cons c t =>
   have ht : t = [] := by
    rw [hb] at hl
    simp at hl
    exact hl
   subst ht
   show 0 < 10 * 0 + digV c
   have hd : isDig c = true := by
    rw [hb] at hB
    simp [digitsB] at hB
    exact hB
   have hc0 : c ≠ 48 := fun e => by
    have : s = [45, 48] := by
     unfold bodyS at hb
     rw [if_pos hh] at hb
     cases s with
     | nil => cases hh
     | cons x s =>
      simp at hh hb
      rw [hh, hb, e]
    rw [this] at hne
    cases hne
   have h1 := isDig_iff.1 hd
   have h2 : c.toNat ≠ 48 := fun e => hc0 (UInt8.toNat.inj e)
   unfold digV
   omega
theorem z_ext3 (a b c e : SV) (k : K1) : slow.ext 3 (.tuple [a, b, c, e]) k = k e := rfl
theorem makes_run (K d : Nat) (H : Heap) (v w : SV) : runQ wk tab slow K (d + 21) 3 [v, w] H = f3 slow K (runQ wk tab slow K (d + 20)) v w H := Eq.trans rfl rfl
theorem makes_j3 (K : Nat) (hK : 3000000 < K) (d : Nat) (H : Heap) {x y x' y' r r' : SV} {s t : List UInt8} (h1 : okW s = true) (h2 : okW t = true) (ia : IsInt H (.agg [x, y]) (sgn (negW s) (valS 0 (bodyS s)))) (ib : IsInt H (.agg [x', y']) (sgn (negW t) (valS 0 (bodyS t)))) (ra : IsR H r (valS 0 (bodyS s))) (rb : IsR H r' (valS 0 (bodyS t))) :
  ∃ H', f3_j3 slow K (runQ wk tab slow K (d + 20)) (.box [x, y]) (.bool (negW s)) r (.box [x', y']) (.bool (negW t)) r' (.bool false) H = some (.bool true, H') := by
 have pa := val_pos h1
 have pb := val_pos h2
 have la : valS 0 (bodyS s) < 2 ^ 4096 := by unfold okW at h1; simp at h1; exact h1.2.2
 have lb : valS 0 (bodyS t) < 2 ^ 4096 := by unfold okW at h2; simp at h2; exact h2.2.2
 generalize valS 0 (bodyS s) = a at *
 generalize valS 0 (bodyS t) = b at *
 generalize negW s = m at *
 generalize negW t = n at *
 by_cases hb : b = 0
 ·subst hb
  rw [sgn_zero] at ib
  have g1 := qmakeL_no K (d + 13) H ia ib
  rw [show d + 13 + 7 = d + 20 from rfl] at g1
  have g2 := rmake_no K (d + 13) H m n (v := r) rb
  rw [show d + 13 + 7 = d + 20 from rfl] at g2
  obtain ⟨H1, g3, fr3⟩ := qtextL_ok K (by omega) (d + 14) H (IsQ.zero H) (QL.int (z := 0) (by decide))
  rw [show d + 14 + 6 = d + 20 from rfl, textQ_zero] at g3
  refine ⟨H1, ?_⟩
  have b0 : ((11 : Int) == 11) = true := rfl
  simp only [f3_j3, z_cond, cond_false, z_lload2, g1, z_call, z_ext0, z_ext1, z_bst3, g2, z_not, Bool.not_false, cond_true, z_eql, b0, z_guard, z_lload3, g3, z_seql, beq_self_eq_true, f3_j5, z_rest_bool]
 ·have hb0 : 0 < b := Nat.pos_of_ne_zero hb
  have sb : sgn n b ≠ 0 := fun e => hb (by have := congrArg Int.natAbs e; rw [sgn_nat] at this; simpa using this)
  obtain ⟨q, H1, g1, fr1, iq⟩ := qmakeL_ok K (by omega) (d + 13) H ia ib sb (by rw [sgn_nat]; exact la) (by rw [sgn_nat]; exact lb)
  rw [show d + 13 + 7 = d + 20 from rfl] at g1
  have eq : (if sgn n b < 0 then -(sgn m a) else sgn m a) = sgn (!(m == n)) a := by
   cases n with
   | true =>
    have : sgn true b < 0 := by show (-(b : Int) < 0); omega
    rw [if_pos this]
    cases m <;> simp [sgn]
   | false =>
    have : ¬ sgn false b < 0 := by show ¬ ((b : Int) < 0); omega
    rw [if_neg this]
    cases m <;> simp [sgn]
  rw [eq, sgn_nat] at iq
  have hql : QL (mkRat (sgn (!(m == n)) a) b) := QL.mk hb0 (by rw [sgn_nat]; exact la) lb
  obtain ⟨p, H2, g2, fr2, ip⟩ := rmake_ok K hK (d + 13) H1 m n (ra.fr fr1) (rb.fr fr1) hb0 la lb
  rw [show d + 13 + 7 = d + 20 from rfl] at g2
  obtain ⟨H3, g3, fr3⟩ := qtextL_ok K (by omega) (d + 14) H2 (iq.fr fr2) hql
  rw [show d + 14 + 6 = d + 20 from rfl] at g3
  obtain ⟨H4, g4, fr4⟩ := rqtextL_ok K hK (d + 13) H3 (ip.fr fr3) hql
  rw [show d + 13 + 7 = d + 20 from rfl] at g4
  have F4 := Frame.trans fr1 (Frame.trans fr2 (Frame.trans fr3 fr4))
  obtain ⟨u, g5, iu⟩ := qof_ok K (d + 19) H4 (ia.fr F4)
  rw [show d + 19 + 1 = d + 20 from rfl] at g5
  obtain ⟨H5, g6, fr5⟩ := qtextL_ok K (by omega) (d + 14) H4 iu (QL.int (by rw [sgn_nat]; exact la))
  rw [show d + 14 + 6 = d + 20 from rfl, textQ_int] at g6
  have em : decide (sgn m a < 0) = m := by
   by_cases h : 0 < a
   ·exact sgn_lt h
   ·have : m = false := by
     cases m with
     | false => rfl
     | true => exact absurd (pa rfl) h
    subst this
    exact decide_eq_false (by show ¬ ((a : Int) < 0); omega)
  obtain ⟨H6, g7, fr6⟩ := rwhole_ok K hK (d + 14) H5 (v := r) (z := sgn m a) (by rw [sgn_nat]; exact (ra.fr F4).fr fr5) (by rw [sgn_nat]; exact la)
  rw [show d + 14 + 6 = d + 20 from rfl, em] at g7
  obtain ⟨q1, q2, q3, rfl, _⟩ := id iq
  obtain ⟨p2, p3, rfl, _⟩ := id ip
  refine ⟨H6, ?_⟩
  have b0 : ((0 : Int) == 0) = true := rfl
  simp only [f3_j3, z_cond, cond_false, z_lload2, g1, z_call, z_ext0, z_ext1, z_bst3, g2, z_not, Bool.not_true, z_eql, b0, z_guard, cond_true, z_lload3, g3, g4, z_seql, beq_self_eq_true, g5, g6, g7, f3_j7, z_rest_bool]
theorem makes_ok (K : Nat) (hK : 3000000 < K) (d : Nat) (H : Heap) (s t : List UInt8) :
  ∃ H', runQ wk tab slow K (d + 21) 3 [.str s, .str t] H = some (.bool true, H') := by
 have hw : ∀ H, runQ wk tab slow K (d + 20) 4 [] H = some (.bool true, H) := fun H => rfl
 rw [makes_run]
 obtain ⟨u, H1, h1, ho, fr1, _⟩ := z_lay2 (H := H) (lo := H.size) (Nat.le_refl _) (.str []) (.str []) (x := .str s) (y := .str t) rfl rfl
 simp only [f3, hw, z_call, z_not, Bool.not_true, z_guard, cond_false, h1]
 rcases beyond3_ok K (by omega) (d + 19) H1 (ss := [s, t]) ho.arr (by simp) with h2 | ⟨hl, h2⟩
 ·refine ⟨H1, ?_⟩
  rw [show d + 19 + 1 = d + 20 from rfl] at h2
  simp only [h2, z_call, f3_j1, z_cond, cond_true, hw, z_rest_bool]
 ·rw [show d + 19 + 1 = d + 20 from rfl] at h2
  obtain ⟨x, y, r, H2, h3, fr2, i2⟩ := whole3_ok K hK (d + 13) H1 (hl s (by simp))
  rw [show d + 13 + 7 = d + 20 from rfl] at h3
  obtain ⟨x', y', r', H3, h4, fr3, i3⟩ := whole3_ok K hK (d + 13) H2 (hl t (by simp))
  rw [show d + 13 + 7 = d + 20 from rfl] at h4
  by_cases hs : okW s = true
  ·by_cases ht : okW t = true
   ·obtain ⟨ia, ra⟩ := i2 hs
    obtain ⟨ib, rb⟩ := i3 ht
    obtain ⟨H4, h5⟩ := makes_j3 K hK d H3 hs ht (ia.fr fr3) ib (ra.fr fr3) rb
    refine ⟨H4, ?_⟩
    rw [hs, Bool.true_and] at h3
    rw [ht, Bool.true_and] at h4
    simp only [h2, z_call, f3_j1, z_cond, cond_false, h3, z_ext0, z_ext1, z_ext2, z_ext3, z_bst2, h4, z_not, Bool.not_true, z_guard]
    exact h5
   ·have ht' : okW t = false := by simpa using ht
    refine ⟨H3, ?_⟩
    rw [hs] at h3
    rw [ht'] at h4
    simp only [h2, z_call, f3_j1, z_cond, cond_false, h3, z_ext0, z_ext1, z_ext2, z_ext3, z_bst2, h4, z_not, Bool.not_true, Bool.not_false, z_guard, f3_j3, cond_true]
  ·have hs' : okW s = false := by simpa using hs
   refine ⟨H3, ?_⟩
   rw [hs'] at h3
   simp only [h2, z_call, f3_j1, z_cond, cond_false, h3, z_ext0, z_ext1, z_ext2, z_ext3, z_bst2, h4, z_not, Bool.not_false, z_guard, cond_true, f3_j3]
end Go.Sh.Of
