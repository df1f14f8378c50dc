/- The program's dual of a form: contract of dual.Dual; the law's beyond. -/
import Derived.Test.YtcfheodfkmelmaaDualA
set_option linter.unusedVariables false
set_option linter.unusedSimpArgs false
set_option exponentiation.threshold 20000
namespace Go.Sh.Of
open Go Go.Sh
theorem bey23_in (C : CallC) (K : Nat) {H : Heap} {v : SV} {us : List SV} (hv : Arr H v us) {i : Nat} {u : SV} {T : List (List Int)} (hui : us[i]? = some u) (hu : IsInts2 H u T) (hi : i < 1000) (hT : T.length <= 100) (k6 : SV -> SV -> SV -> Heap -> Rs) : ∀ (m j fuel : Nat), j + m = T.length -> m < fuel -> (∀ (q : Nat) r, q < j -> T[q]? = some r -> r.length <= 100) ->
  (slow.loop6 (f5_l4 slow K C k6) fuel v (i64 i) (i64 us.length) (i64 i) (i64 T.length) (i64 j) H = some (.bool true, H)) \/ ((∀ r ∈ T, r.length <= 100) /\ slow.loop6 (f5_l4 slow K C k6) fuel v (i64 i) (i64 us.length) (i64 i) (i64 T.length) (i64 j) H = k6 v (i64 us.length) (i64 (i + 1)) H)
 | 0, j, fuel, hjm, hf, hdone => by
  obtain ⟨fuel, rfl⟩ : ∃ q, fuel = q + 1 := ⟨fuel - 1, by omega⟩
  have hlt : ¬ j < T.length := by omega
  refine .inr ⟨fun r hr => ?_, ?_⟩
  ·obtain ⟨q, hq⟩ := List.getElem?_of_mem hr
   exact hdone q r (by have := (List.getElem?_eq_some_iff.1 hq).1; omega) hq
  ·rw [z_loop6]
   simp only [f5_l4, n_lss, decide_eq_false hlt, z_cond, cond_false, w_inc (show i < 1000000 by omega)]
 | m + 1, j, fuel, hjm, hf, hdone => by
  obtain ⟨fuel, rfl⟩ : ∃ q, fuel = q + 1 := ⟨fuel - 1, by omega⟩
  have hlt : j < T.length := by omega
  obtain ⟨r, hr⟩ : ∃ r, T[j]? = some r := ⟨_, List.getElem?_eq_getElem hlt⟩
  obtain ⟨ws, hW⟩ := IntsW.of hu
  obtain ⟨w, hw⟩ : ∃ w, ws[j]? = some w := ⟨_, List.getElem?_eq_getElem (by rw [hW.2.1]; exact hlt)⟩
  have hwl : ∀ k, slow.len w k = k (i64 r.length) := fun k => by rw [(hW.2.2 j w r hw hr).len]; simp [intsL]
  have l1 : ∀ k, slow.idx 1 v (i64 i) (fun p => slow.load 1 false p H k) = k u := fun k => hv.load hui .i64 k
  have l2 : ∀ k, slow.idx 1 u (i64 j) (fun p => slow.load 1 false p H k) = k w := fun k => hW.1.load hw .i64 k
  have g : ∀ k, slow.gtr (i64 r.length) (.int .i64 100) k = k (.bool (decide (r.length > 100))) := fun k => n_gtr k .i64 r.length 100
  rw [z_loop6]
  simp only [f5_l4, n_lss, decide_eq_true hlt, z_cond, cond_true, l1, l2, hwl, g]
  by_cases hbig : r.length > 100
  ·left
   rw [decide_eq_true hbig]
   rfl
  ·rw [decide_eq_false hbig]
   simp only [cond_false, w_inc (show j < 1000000 by omega)]
   exact bey23_in C K hv hui hu hi hT k6 m (j + 1) fuel (by omega) (by omega) (fun q r' hq hr' => by
    by_cases hqi : q = j
    ·subst hqi
     rw [hr] at hr'
     cases hr'
     omega
    ·exact hdone q r' (by omega) hr')
theorem bey23_out (C : CallC) (K : Nat) (hK : 1000 < K) {H : Heap} {v : SV} {us : List SV} (hv : Arr H v us) (hul : us.length < 1000) {Ts : List (List (List Int))} (hl : us.length = Ts.length) (hT : ∀ (i : Nat) u T, us[i]? = some u -> Ts[i]? = some T -> IsInts2 H u T) : ∀ (m i fuel : Nat), i + m = us.length -> m < fuel -> (∀ (q : Nat) T, q < i -> Ts[q]? = some T -> FewI T) ->
  (slow.loop3 (f5_l1 slow K C) fuel v (i64 us.length) (i64 i) H = some (.bool true, H)) \/ ((∀ T ∈ Ts, FewI T) /\ slow.loop3 (f5_l1 slow K C) fuel v (i64 us.length) (i64 i) H = some (.bool false, H))
 | 0, i, fuel, him, hf, hdone => by
  obtain ⟨fuel, rfl⟩ : ∃ m, fuel = m + 1 := ⟨fuel - 1, by omega⟩
  have hi : ¬ i < us.length := by omega
  refine .inr ⟨fun T hT => ?_, ?_⟩
  ·obtain ⟨q, hq⟩ := List.getElem?_of_mem hT
   exact hdone q T (by have := (List.getElem?_eq_some_iff.1 hq).1; omega) hq
  ·rw [z_loop3]
   simp only [f5_l1, n_lss, decide_eq_false hi, z_cond, cond_false]
 | m + 1, i, fuel, him, hf, hdone => by
  obtain ⟨fuel, rfl⟩ : ∃ m, fuel = m + 1 := ⟨fuel - 1, by omega⟩
  have hi : i < us.length := by omega
  obtain ⟨u, hu⟩ : ∃ u, us[i]? = some u := ⟨_, List.getElem?_eq_getElem hi⟩
  obtain ⟨T, hTi⟩ : ∃ T, Ts[i]? = some T := ⟨_, List.getElem?_eq_getElem (by omega)⟩
  have ht := hT i u T hu hTi
  have hld : ∀ k, slow.idx 1 v (i64 i) (fun p => slow.load 1 false p H k) = k u := fun k => hv.load hu .i64 k
  have g : ∀ k, slow.gtr (i64 T.length) (.int .i64 100) k = k (.bool (decide (T.length > 100))) := fun k => n_gtr k .i64 T.length 100
  rw [z_loop3]
  simp only [f5_l1, n_lss, decide_eq_true hi, z_cond, cond_true, hld, ints_len ht, g]
  by_cases hbig : T.length > 100
  ·left
   rw [decide_eq_true hbig]
   rfl
  ·rw [decide_eq_false hbig]
   simp only [cond_false]
   rw [show (SV.int .i64 0) = i64 0 from rfl]
   rcases bey23_in C K hv hu ht (by omega) (by omega) (slow.loop3 (f5_l1 slow K C) fuel) T.length 0 K (by omega) (by omega) (fun q r hq => by omega) with h | ⟨hc, h⟩
   ·left; exact h
   ·rw [h]
    exact bey23_out C K hK hv hul hl hT m (i + 1) fuel (by omega) (by omega) (fun q T' hq hT' => by
     by_cases hqi : q = i
     ·subst hqi
      rw [hTi] at hT'
      cases hT'
      exact ⟨by omega, hc⟩
     ·exact hdone q T' (by omega) hT')
theorem beyond23_ok (K : Nat) (hK : 1000 < K) (d : Nat) (H : Heap) {v : SV} {us : List SV} (hv : Arr H v us) (hul : us.length < 1000) {Ts : List (List (List Int))} (hl : us.length = Ts.length) (hT : ∀ (i : Nat) u T, us[i]? = some u -> Ts[i]? = some T -> IsInts2 H u T) :
  runQ wk tab slow K (d + 1) 5 [v] H = some (.bool true, H) \/ ((∀ T ∈ Ts, FewI T) /\ runQ wk tab slow K (d + 1) 5 [v] H = some (.bool false, H)) := by
 have e : runQ wk tab slow K (d + 1) 5 [v] H = slow.loop3 (f5_l1 slow K (runQ wk tab slow K d)) K v (i64 us.length) (i64 0) H := by
  show f5 slow K (runQ wk tab slow K d) v H = _
  simp only [f5, hv.len]
  rfl
 rw [e]
 exact bey23_out _ K hK hv hul hl hT us.length 0 K (by omega) (by omega) (fun q T hq => by omega)
theorem dua_le {A : List (List Int)} (hF : Form A) {i j : Nat} (hi : i < A.length) (hj : j < A.length) : (duaM A.length (ent A) i j).natAbs < 2 ^ 1500 := by
 have h0 := hF.nz (k := A.length) (Nat.le_refl _)
 have e := congrArg Int.natAbs (dua_eq h0 hi hj)
 rw [Int.natAbs_mul, Int.natAbs_mul, Int.natAbs_natCast] at e
 have h1 : 1 <= (det A.length (ent A)).natAbs := Int.natAbs_pos.2 h0
 have h2 : (duaM A.length (ent A) i j).natAbs <= 2 ^ 136 * 2 ^ 136 := by
  refine Nat.le_trans (Nat.le_mul_of_pos_left _ h1) ?_
  rw [e]
  exact Nat.mul_le_mul (lvl_le hF) (adj_le hF.sq hi hj)
 refine Nat.lt_of_le_of_lt h2 ?_
 rw [<- Nat.pow_add]
 exact Nat.pow_lt_pow_right (by decide) (by decide)
def duaRow (A : List (List Int)) (i j : Nat) : List Int := (List.range j).map (duaM A.length (ent A) i)
def duaL (A : List (List Int)) : List (List Int) := (List.range A.length).map fun i => duaRow A i A.length
def smS (z : Int) : Prop := z.natAbs <= 16384
instance (z : Int) : Decidable (smS z) := inferInstanceAs (Decidable (z.natAbs <= 16384))
theorem dual_in (K : Nat) (hK : 1000000 < K) (d : Nat) {H0 : Heap} {v s b x y : SV} {ws : List SV} {lw : Nat} {A : List (List Int)} (hF : Form A) (hv : GWork 3 IsQ lw H0 v ws (qI A.length (ent A)) A.length A.length) (hb : IsQ H0 (.agg [b, x, y]) ((lvl A.length (ent A) : Nat) : Rat)) {i : Nat} (hi : i < A.length) {lo : Nat} {Hi : Heap} (h0i : Frame H0 Hi) {out : SV} (ho : OwnR lo Hi out ((List.range i).map fun i => duaRow A i A.length)) (hlo : lo <= Hi.size) (k29 : SV -> SV -> SV -> SV -> SV -> SV -> SV -> Heap -> Rs) : ∀ (m j fuel : Nat) (H : Heap) (row : SV), j + m = A.length -> m < fuel -> Frame Hi H -> Own Hi.size H row (intsL .i64 (duaRow A i j)) -> (∀ t, t < j -> smS (duaM A.length (ent A) i t)) ->
  (∃ out' H', slow.loop11 (f6_l4 slow K (runQ wk tab slow K (d + 21)) k29) fuel (.box [.slice nilSl]) v (.box [s]) (.box [b, x, y]) out (i64 i) row (i64 A.length) (i64 i) (i64 A.length) (i64 j) H = k29 (.box [.slice nilSl]) v (.box [s]) (.box [b, x, y]) out' (i64 A.length) (i64 (i + 1)) H' /\ Fr lo Hi H' /\ OwnR lo H' out' ((List.range (i + 1)).map fun i => duaRow A i A.length) /\ ∀ t, t < A.length -> smS (duaM A.length (ent A) i t)) \/
  (∃ H' t, t < A.length /\ ¬ smS (duaM A.length (ent A) i t) /\ slow.loop11 (f6_l4 slow K (runQ wk tab slow K (d + 21)) k29) fuel (.box [.slice nilSl]) v (.box [s]) (.box [b, x, y]) out (i64 i) row (i64 A.length) (i64 i) (i64 A.length) (i64 j) H = some (.tuple [.slice nilSl, .agg [.slice nilSl], .int .i64 3], H') /\ Frame Hi H')
 | 0, j, fuel, H, row, hjm, hf, hfr, hr, hd => by
  obtain ⟨fuel, rfl⟩ : ∃ q, fuel = q + 1 := ⟨fuel - 1, by omega⟩
  have h8 := hF.sq.n8
  have hj : j = A.length := by omega
  subst hj
  have hlt : ¬ A.length < A.length := Nat.lt_irrefl _
  obtain ⟨out', H', h1, o1, fr1, _⟩ := (ho.fr hfr).push (Nat.le_trans hlo hfr.size) (by simp; omega) hr.arr
  refine .inl ⟨out', H', ?_, Fr.trans (hfr.mono hlo) fr1, ?_, hd⟩
  ·rw [z_loop11]
   simp only [f6_l4, n_lss, decide_eq_false hlt, z_cond, cond_false, h1, w_inc (show i < 1000000 by omega)]
  ·rw [List.range_succ, List.map_append]
   exact o1
 | m + 1, j, fuel, H, row, hjm, hf, hfr, hr, hd => by
  obtain ⟨fuel, rfl⟩ : ∃ q, fuel = q + 1 := ⟨fuel - 1, by omega⟩
  have h8 := hF.sq.n8
  have hlt : j < A.length := by omega
  have h0H := Frame.trans h0i hfr
  obtain ⟨w, e, hw, a1, a2, a3⟩ := (hv.fr pcellQ h0H).load pcellQ hi hlt
  have qn : QM ((lvl A.length (ent A) : Nat) : Rat) := QM.int (z := (lvl A.length (ent A) : Int)) (by rw [Int.natAbs_natCast]; exact lvl_le hF)
  obtain ⟨p, H1, h1, fr1, ip⟩ := qmul_ok K (by omega) (d + 13) H a3 (hb.fr h0H) (qI_qm hF hi hlt).qs qn.qs
  rw [show d + 13 + 8 = d + 21 from rfl] at h1
  obtain ⟨p1, p2, p3, rfl, _⟩ := id ip
  obtain ⟨z, h2, iz⟩ := qnum_ok K (d + 20) H1 ip
  rw [show d + 20 + 1 = d + 21 from rfl] at h2
  have iz' : IsInt H1 z (duaM A.length (ent A) i j) := iz
  have hbig := dua_le hF hi hlt
  have h3 := zi64_ok K (d + 19) H1 iz' (lt_4096 (lt_3000 hbig))
  rw [show d + 19 + 2 = d + 21 from rfl] at h3
  generalize hz : duaM A.length (ent A) i j = zz at h3
  by_cases hs : smS zz
  ·have hs' : zz.natAbs <= 16384 := hs
   have hfit : fits64 zz = true := fits64_iff.2 ⟨by omega, by omega⟩
   rw [if_pos hfit] at h3
   have c1 : decide (zz > 16384) = false := decide_eq_false (by omega)
   have c2 : ∀ k, slow.lss (.int .i64 zz) (.int .i64 (-16384)) k = k (.bool false) := fun k => by rw [z_lss, decide_eq_false (by omega)]
   obtain ⟨row', H2, h4, o4, fr4, _⟩ := push1 (hr.fr fr1) (Nat.le_trans hfr.size fr1.size) (.int .i64 0) (x := .int .i64 zz) rfl (by_ := 8) (roomy_small (by simp [intsL, duaRow]; omega))
   have o4' : Own Hi.size H2 row' (intsL .i64 (duaRow A i (j + 1))) := by
    have e : intsL .i64 (duaRow A i (j + 1)) = intsL .i64 (duaRow A i j) ++ [.int .i64 zz] := by
     rw [<- hz]
     simp [duaRow, intsL, List.range_succ]
    rw [e]
    exact o4
   have hd' : ∀ t, t < j + 1 -> smS (duaM A.length (ent A) i t) := fun t ht => by
    by_cases e : t = j
    ·rw [e, hz]; exact hs
    ·exact hd t (by omega)
   have hstep : slow.loop11 (f6_l4 slow K (runQ wk tab slow K (d + 21)) k29) (fuel + 1) (.box [.slice nilSl]) v (.box [s]) (.box [b, x, y]) out (i64 i) row (i64 A.length) (i64 i) (i64 A.length) (i64 j) H = slow.loop11 (f6_l4 slow K (runQ wk tab slow K (d + 21)) k29) fuel (.box [.slice nilSl]) v (.box [s]) (.box [b, x, y]) out (i64 i) row' (i64 A.length) (i64 i) (i64 A.length) (i64 (j + 1)) H2 := by
    rw [z_loop11]
    simp only [f6_l4, n_lss, decide_eq_true hlt, z_cond, cond_true, a1, a2, z_lload3, h1, z_call, z_ext0, z_ext1, z_bst3, h2, h3, z_not, Bool.not_true, z_guard, cond_false, z_gtr, c1, c2, f6_j6, h4, w_inc (show j < 1000000 by omega)]
   rw [hstep]
   exact dual_in K hK d hF hv hb hi h0i ho hlo k29 m (j + 1) fuel H2 row' (by omega) (by omega) (Fr.trans (Frame.trans hfr fr1) fr4) o4' hd'
  ·have hs' : ¬ zz.natAbs <= 16384 := hs
   refine .inr ⟨H1, j, hlt, by rw [hz]; exact hs, ?_, Frame.trans hfr fr1⟩
   rw [z_loop11]
   by_cases hfit : fits64 zz = true
   ·rw [if_pos hfit] at h3
    by_cases g : zz > 16384
    ·simp only [f6_l4, n_lss, decide_eq_true hlt, z_cond, cond_true, a1, a2, z_lload3, h1, z_call, z_ext0, z_ext1, z_bst3, h2, h3, z_not, Bool.not_true, z_guard, cond_false, z_gtr, decide_eq_true g, f6_j6, z_build0, z_bst1, z_resc1]
    ·have c2 : ∀ k, slow.lss (.int .i64 zz) (.int .i64 (-16384)) k = k (.bool true) := fun k => by rw [z_lss, decide_eq_true (by omega)]
     simp only [f6_l4, n_lss, decide_eq_true hlt, z_cond, cond_true, a1, a2, z_lload3, h1, z_call, z_ext0, z_ext1, z_bst3, h2, h3, z_not, Bool.not_true, z_guard, cond_false, z_gtr, decide_eq_false g, c2, f6_j6, z_build0, z_bst1, z_resc1]
   ·rw [if_neg hfit] at h3
    simp only [f6_l4, n_lss, decide_eq_true hlt, z_cond, cond_true, a1, a2, z_lload3, h1, z_call, z_ext0, z_ext1, z_bst3, h2, h3, z_not, Bool.not_false, z_guard, f6_j6, z_build0, z_bst1, z_resc1]
theorem dual_out (K : Nat) (hK : 1000000 < K) (d : Nat) {H0 : Heap} {v s b x y : SV} {ws : List SV} {lw : Nat} {A : List (List Int)} (hF : Form A) (hv : GWork 3 IsQ lw H0 v ws (qI A.length (ent A)) A.length A.length) (hn : IsNat H0 (.agg [s]) (lvl A.length (ent A))) (hb : IsQ H0 (.agg [b, x, y]) ((lvl A.length (ent A) : Nat) : Rat)) : ∀ (m i fuel : Nat) (H : Heap) (out : SV), i + m = A.length -> m < fuel -> Frame H0 H -> OwnR H0.size H out ((List.range i).map fun i => duaRow A i A.length) -> (∀ q t, q < i -> t < A.length -> smS (duaM A.length (ent A) q t)) ->
  (∃ out' H', slow.loop7 (f6_l2 slow K (runQ wk tab slow K (d + 21))) fuel (.box [.slice nilSl]) v (.box [s]) (.box [b, x, y]) out (i64 A.length) (i64 i) H = some (.tuple [out', .agg [s], .int .i64 0], H') /\ Frame H0 H' /\ OwnR H0.size H' out' (duaL A) /\ IsNat H' (.agg [s]) (lvl A.length (ent A)) /\ ∀ q t, q < A.length -> t < A.length -> smS (duaM A.length (ent A) q t)) \/
  (∃ H', slow.loop7 (f6_l2 slow K (runQ wk tab slow K (d + 21))) fuel (.box [.slice nilSl]) v (.box [s]) (.box [b, x, y]) out (i64 A.length) (i64 i) H = some (.tuple [.slice nilSl, .agg [.slice nilSl], .int .i64 3], H') /\ Frame H0 H' /\ ¬ ∀ q t, q < A.length -> t < A.length -> smS (duaM A.length (ent A) q t))
 | 0, i, fuel, H, out, him, hf, hfr, ho, hd => by
  obtain ⟨fuel, rfl⟩ : ∃ q, fuel = q + 1 := ⟨fuel - 1, by omega⟩
  have hlt : ¬ i < A.length := by omega
  have e : i = A.length := by omega
  subst e
  have hg : out.good = true := by
   obtain ⟨ws, ⟨base, rfl, _⟩, _⟩ := ho
   rfl
  refine .inl ⟨out, H, ?_, hfr, ho, hn.fr hfr, hd⟩
  rw [z_loop7]
  simp only [f6_l2, n_lss, decide_eq_false hlt, z_cond, cond_false, z_lload1, z_bst1, z_rest hg, z_resc1]
 | m + 1, i, fuel, H, out, him, hf, hfr, ho, hd => by
  obtain ⟨fuel, rfl⟩ : ∃ q, fuel = q + 1 := ⟨fuel - 1, by omega⟩
  have h8 := hF.sq.n8
  have hlt : i < A.length := by omega
  obtain ⟨w, hw⟩ : ∃ w, ws[i]? = some w := ⟨_, List.getElem?_eq_getElem (by rw [hv.len]; exact hlt)⟩
  have hv1 := hv.fr pcellQ hfr
  have l1 := hv1.out.arr.load hw .i64
  have l2 := (hv1.row i w hw).len
  have hstep : slow.loop7 (f6_l2 slow K (runQ wk tab slow K (d + 21))) (fuel + 1) (.box [.slice nilSl]) v (.box [s]) (.box [b, x, y]) out (i64 A.length) (i64 i) H = slow.loop11 (f6_l4 slow K (runQ wk tab slow K (d + 21)) (slow.loop7 (f6_l2 slow K (runQ wk tab slow K (d + 21))) fuel)) K (.box [.slice nilSl]) v (.box [s]) (.box [b, x, y]) out (i64 i) (.slice nilSl) (i64 A.length) (i64 i) (i64 A.length) (i64 0) H := by
   rw [z_loop7]
   simp only [f6_l2, n_lss, decide_eq_true hlt, z_cond, cond_true, l1, l2]
   rfl
  rw [hstep]
  rcases dual_in K hK d (s := s) hF hv hb hlt hfr ho hfr.size (slow.loop7 (f6_l2 slow K (runQ wk tab slow K (d + 21))) fuel) A.length 0 K H (.slice nilSl) (by omega) (by omega) (Fr.refl _ _) (Own.nil _ _) (fun t ht => by omega) with ⟨out', H1, h1, fr1, o1, s1⟩ | ⟨H1, t, ht, hns, h1, fr1⟩
  ·rw [h1]
   exact dual_out K hK d hF hv hn hb m (i + 1) fuel H1 out' (by omega) (by omega) (Fr.trans hfr fr1) o1 fun q t hq ht => by
    by_cases e : q = i
    ·rw [e]; exact s1 t ht
    ·exact hd q t (by omega) ht
  ·exact .inr ⟨H1, h1, Frame.trans hfr fr1, fun h => hns (h i t hlt ht)⟩
theorem dual_run (K d : Nat) (H : Heap) (v : SV) : runQ wk tab slow K (d + 22) 6 [v] H = f6 slow K (runQ wk tab slow K (d + 21)) v H := Eq.trans rfl rfl
theorem dual_ok (K : Nat) (hK : 1000000 < K) (d : Nat) (H : Heap) {a : SV} {A : List (List Int)} (ha : IsInts2 H a A) (hF : Form A) :
  (∃ v s H', runQ wk tab slow K (d + 22) 6 [a] H = some (.tuple [v, .agg [s], .int .i64 0], H') /\ Frame H H' /\ IsInts2 H' v (duaL A) /\ IsNat H' (.agg [s]) (lvl A.length (ent A)) /\ ∀ q t, q < A.length -> t < A.length -> smS (duaM A.length (ent A) q t)) \/
  (∃ H', runQ wk tab slow K (d + 22) 6 [a] H = some (.tuple [.slice nilSl, .agg [.slice nilSl], .int .i64 3], H') /\ Frame H H' /\ ¬ ∀ q t, q < A.length -> t < A.length -> smS (duaM A.length (ent A) q t)) := by
 have h8 := hF.sq.n8
 obtain ⟨v, ws, H1, h1, fr1, W1⟩ := inverse_ok K hK d H ha hF
 obtain ⟨s, H2, h2, fr2, n2⟩ := level_ok K hK (d + 14) H1 hF W1
 rw [show d + 14 + 7 = d + 21 from rfl] at h2
 have hdg := dg_len (p136 (lvl_le hF))
 obtain ⟨z, h3, iz⟩ := zmake_ok K (d + 18) H2 false n2 (by omega)
 rw [show d + 18 + 3 = d + 21 from rfl] at h3
 rw [show sgn false (lvl A.length (ent A)) = (lvl A.length (ent A) : Int) from rfl] at iz
 obtain ⟨q, h4, iq⟩ := qof_ok K (d + 20) H2 iz
 rw [show d + 20 + 1 = d + 21 from rfl] at h4
 obtain ⟨b, x, y, rfl, _⟩ := id iq
 have hstep : runQ wk tab slow K (d + 22) 6 [a] H = slow.loop7 (f6_l2 slow K (runQ wk tab slow K (d + 21))) K (.box [.slice nilSl]) v (.box [s]) (.box [b, x, y]) (.slice nilSl) (i64 A.length) (i64 0) H2 := by
  rw [dual_run]
  have b0 : ((0 : Int) != 0) = false := rfl
  simp only [f6, h1, z_call, z_ext0, z_ext1, z_neq, b0, z_cond, cond_false, h2, z_bst1, z_lload1, h3, h4, z_bst3, W1.size]
  rfl
 rw [hstep]
 rcases dual_out K hK d (H0 := H2) hF (W1.fr pcellQ fr2) n2 iq A.length 0 K H2 (.slice nilSl) (by omega) (by omega) (Fr.refl _ _) (OwnR.nil _ _) (fun q t hq => by omega) with ⟨o, H3, h5, fr3, o3, n3, s3⟩ | ⟨H3, h5, fr3, hns⟩
 ·exact .inl ⟨o, s, H3, h5, Frame.trans fr1 (Frame.trans fr2 fr3), o3.ints, n3, s3⟩
 ·exact .inr ⟨H3, h5, Frame.trans fr1 (Frame.trans fr2 fr3), hns⟩
theorem dual_no (K : Nat) (hK : 1000000 < K) (d : Nat) (H : Heap) {a : SV} {A : List (List Int)} (ha : IsInts2 H a A) (hE : chkE A ≠ 0) :
  ∃ H', runQ wk tab slow K (d + 22) 6 [a] H = some (.tuple [.slice nilSl, .agg [.slice nilSl], .int .i64 (chkE A)], H') /\ Frame H H' := by
 obtain ⟨H1, h1, fr1⟩ := inverse_no K hK d H ha hE
 have b : (chkE A != 0) = true := by simp [hE]
 refine ⟨H1, ?_, fr1⟩
 rw [dual_run]
 simp only [f6, h1, z_call, z_ext0, z_ext1, z_neq, b, z_cond, cond_true, z_build0, z_bst1, z_resc1, z_rest_int]
end Go.Sh.Of
