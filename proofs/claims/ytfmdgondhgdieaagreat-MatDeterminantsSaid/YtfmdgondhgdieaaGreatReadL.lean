/- law05: read: a matrix of texts, of the program's and the document's. -/
import Derived.Test.YtfmdgondhgdieaaGreatRef
import Derived.Test.YtfmdgondhgdieaaGreatStrs
set_option linter.unusedVariables false
set_option linter.unusedSimpArgs false
namespace Go.Sh.Of
open Go Go.Sh
def Cuts (H : Heap) (v : SV) : Prop := ∃ s, v = .slice s /\ ∀ a, eszOk H 1 s a = true
theorem Cuts.of (H : Heap) {v : SV} (h : Cutable v) : Cuts H v := by
 obtain ⟨s, e, h⟩ := h
 refine ⟨s, e, fun a => ?_⟩
 unfold eszOk
 rcases h with h | h
 ·rw [h]; simp
 ·rw [h]; simp
theorem Own.cuts {lo : Nat} {H : Heap} {v : SV} {cs : List SV} (h : Own lo H v cs) : Cuts H v := by
 obtain ⟨base, rfl, h⟩ := h
 refine ⟨_, rfl, fun a => ?_⟩
 unfold eszOk
 rcases h with ⟨rfl, _⟩ | ⟨r, ver, rfl, _, h2⟩
 ·simp
 ·simp only [h2]
  cases decide (a = 0) <;> rfl
theorem slice110_ok {H : Heap} {v : SV} {cs : List SV} (h : Arr H v cs) (hc : Cuts H v) {i : Nat} {x : SV} (hx : cs[i]? = some x) :
  ∃ v', (∀ k, slow.slice110 1 v (i64 i) (i64 (i + 1)) H k = k v') /\ Arr H v' [x] := by
 obtain ⟨s, rfl, h2, h3⟩ := h
 obtain ⟨s', e, hE⟩ := hc
 cases e
 have hi : i < cs.length := (List.getElem?_eq_some_iff.1 hx).1
 have hfit : fitsCap H 1 s ((i + 1 : Nat) : Int) = true := by
  unfold fitsCap
  rw [decide_eq_true (by rw [h2]; omega)]
  rfl
 have hn : (((i + 1 : Nat) : Int) - (i : Int)).toNat = 1 := by omega
 refine ⟨.slice (subSl 1 s i 1 (s.cap.map (· - i))), fun k => ?_, ?_⟩
 ·show (opR (.slice 1 true true false) [.slice s, i64 i, i64 (i + 1)] H).bind k = _
  simp only [opR, sliceOp, loOf]
  rw [if_pos ⟨by omega, by omega, hfit, hE _⟩, hn, Int.toNat_natCast]
  rfl
 ·rcases h3 with rfl | ⟨r, o, row, b1, b2, b3, b4⟩
  ·simp at hi
  ·cases i with
   | zero =>
    refine ⟨_, rfl, rfl, .inr ⟨r, o, row, b1, b2, b3, fun j y hy => ?_⟩⟩
    have hj : j = 0 := by have := (List.getElem?_eq_some_iff.1 hy).1; simpa using this
    subst hj
    simp at hy
    subst hy
    exact b4 0 _ hx
   | succ i =>
    refine ⟨⟨some (r, o + (i + 1) * 1), 1, s.cap.map (· - (i + 1)), o⟩, by simp only [subSl, b1], rfl, .inr ⟨r, o + (i + 1) * 1, row, rfl, b2, b3, fun j y hy => ?_⟩⟩
    have hj : j = 0 := by have := (List.getElem?_eq_some_iff.1 hy).1; simpa using this
    subst hj
    simp at hy
    subst hy
    have := b4 (i + 1) _ hx
    rwa [show o + (i + 1) = o + (i + 1) * 1 + 0 by omega] at this
theorem push1G {lo : Nat} {H : Heap} {t : SV} {cs : List SV} (h : Own lo H t cs) (hl : lo <= H.size) (z : SV) {x : SV} (hx : x.flat = true) {by_ : Nat} (hr : roomy (cs.length + 1) by_ = true) :
  ∃ t' H', (∀ k, slow.hbuild 1 [z] [(0, 1)] [x] H (fun u H1 => slow.append 1 by_ t u H1 k) = k t' H') /\ Own lo H' t' (cs ++ [x]) /\ Fr lo H H' /\ (∀ r, ¬ inRow t r -> r < H.size -> H'.get r = H.get r) /\ ∀ r, inRow t' r -> H.size <= r := by
 obtain ⟨u, H1, hu, hou, hfu, hru, hsz⟩ := z_lay1 (H := H) (lo := H.size) (Nat.le_refl _) z hx
 obtain ⟨t', H2, ha, ho2, hf2, hrw, hin, _⟩ := (h.fr hfu).append (Nat.le_trans hl hfu.size) hou.arr (by_ := by_) hr
 exact ⟨t', H2, fun k => by rw [hu, ha], ho2, (hfu.mono hl).trans hf2, fun r hn hlt => by rw [hrw r hn (Nat.lt_of_lt_of_le hlt hfu.size), hfu.rows r hlt], fun r hr' => by
  rw [inRow_uniq hr' (hin (by simp))]; exact hfu.size⟩
structure Cp (lo : Nat) (H : Heap) (a : SV) (ws : List SV) (T : List (List (List UInt8))) (i : Nat) (F : Nat -> Nat) : Prop where
 oa : Own lo H a ws
 la : ws.length = i
 sa : ∀ w ∈ ws, isSlice w
 fa : ∀ r, inRow a r -> F r = 0
 ra : ∀ (q : Nat) w r, ws[q]? = some w -> T[q]? = some r -> Own lo H w (strs r)
 ga : ∀ (q : Nat) w, ws[q]? = some w -> ∀ r, inRow w r -> F r = q + 1
theorem read_cp (K : Nat) (hK : 100000 < K) (C : CallC) {H0 : Heap} {v bx : SV} {T : List (List (List UInt8))} (hv : IsTexts H0 v T) (hT : Few T)
  (hend : ∀ H a ws F fuel, Frame H0 H -> Cp H0.size H a ws T T.length F -> ∃ w rv H', slow.loop5 (f6_l1 slow K C) (fuel + 1) v bx a (i64 T.length) (i64 T.length) H = some (.tuple [.agg [w], rv, .bool true], H') /\ Frame H0 H' /\ IsMat H' (.agg [w]) (parseM T) /\ IsRRows H0.size H' rv (parseM T)) :
  ∀ (m i fuel : Nat) (H : Heap) (a : SV) (ws : List SV) (F : Nat -> Nat), i + m = T.length -> m < fuel -> Frame H0 H -> Cp H0.size H a ws T i F ->
  ∃ w rv H', slow.loop5 (f6_l1 slow K C) fuel v bx a (i64 T.length) (i64 i) H = some (.tuple [.agg [w], rv, .bool true], H') /\ Frame H0 H' /\ IsMat H' (.agg [w]) (parseM T) /\ IsRRows H0.size H' rv (parseM T)
 | 0, i, fuel, H, a, ws, F, him, hf, hfr, hm => by
  obtain ⟨fuel, rfl⟩ : ∃ m, fuel = m + 1 := ⟨fuel - 1, by omega⟩
  have hi : i = T.length := by omega
  subst hi
  exact hend H a ws F fuel hfr hm
 | m + 1, i, fuel, H, a, ws, F, him, hf, hfr, hm => by
  obtain ⟨fuel, rfl⟩ : ∃ m, fuel = m + 1 := ⟨fuel - 1, by omega⟩
  have hlt : i < T.length := by omega
  have hTl := hT.1
  obtain ⟨r, hr⟩ : ∃ r, T[i]? = some r := ⟨_, List.getElem?_eq_getElem hlt⟩
  have hrl := hT.2 r (List.mem_of_getElem? hr)
  obtain ⟨x, hx, ha⟩ := (hv.fr hfr).load (i := i) (cs := strs r) (by simp [hr])
  have hlo : H0.size <= H.size := hfr.size
  obtain ⟨c, H1, h1, oc, f1, _⟩ := (Own.nil H.size H).append (Nat.le_refl _) ha (by_ := 16) (roomy_small (by simp; omega))
  rw [List.nil_append] at oc
  obtain ⟨a', H2, hp, oa2, f2, hro2, hge2⟩ := push1G (hm.oa.fr f1) (Nat.le_trans hlo f1.size) (.slice nilSl) (x := c) oc.arr.flat (by_ := 24) (roomy_small (by rw [hm.la]; omega))
  have hfr2 : Frame H0 H2 := Fr.trans (Frame.trans hfr f1) f2
  have s1 := f1.size
  have s2 := f2.size
  have alt : ∀ r, inRow a r -> r < H.size := fun r hr => Own.lt hm.oa hr
  let F' : Nat -> Nat := fun r => if r < H.size then F r else if r < H1.size then i + 1 else 0
  have hm' : Cp H0.size H2 a' (ws ++ [c]) T (i + 1) F' := {
   oa := oa2
   la := by simp [hm.la]
   sa := fun w hw => by
    rcases List.mem_append.1 hw with hw | hw
    ·exact hm.sa w hw
    ·rw [List.mem_singleton.1 hw]; exact Arr.isSlice oc.arr
   fa := fun r hr => by
    have h1 := hge2 r hr
    show (if r < H.size then F r else if r < H1.size then i + 1 else 0) = 0
    rw [if_neg (by omega), if_neg (by omega)]
   ra := fun q w r' hw hr' => by
    by_cases hq : q < ws.length
    ·rw [List.getElem?_append_left hq] at hw
     have ho := hm.ra q w r' hw hr'
     refine Own.of_rows ho fun r hr => ?_
     have hlt := Own.lt ho hr
     rw [hro2 r (fun hx => ?_) (by omega), f1.rows r hlt]
     have := hm.fa r hx; have := hm.ga q w hw r hr; omega
    ·have hq2 : q = ws.length := by have := (List.getElem?_eq_some_iff.1 hw).1; simp at this; omega
     subst hq2
     simp at hw
     subst hw
     rw [hm.la, hr] at hr'
     cases hr'
     refine Own.of_rows (oc.mono hlo) fun r hr => ?_
     have g1 := Own.geA oc hr
     have g2 := Own.lt oc hr
     exact hro2 r (fun hb => by have := alt r hb; omega) g2
   ga := fun q w hw r hr => by
    by_cases hq : q < ws.length
    ·rw [List.getElem?_append_left hq] at hw
     obtain ⟨r', hr'⟩ : ∃ r', T[q]? = some r' := ⟨_, List.getElem?_eq_getElem (by have := hm.la; omega)⟩
     have hlt := Own.lt (hm.ra q w r' hw hr') hr
     show (if r < H.size then F r else if r < H1.size then i + 1 else 0) = q + 1
     rw [if_pos hlt]
     exact hm.ga q w hw r hr
    ·have hq2 : q = ws.length := by have := (List.getElem?_eq_some_iff.1 hw).1; simp at this; omega
     subst hq2
     simp at hw
     subst hw
     have g1 := Own.geA oc hr
     have g2 := Own.lt oc hr
     show (if r < H.size then F r else if r < H1.size then i + 1 else 0) = ws.length + 1
     rw [if_neg (by omega), if_pos g2, hm.la] }
  obtain ⟨w, rv, H3, h3, rest⟩ := read_cp K hK C hv hT hend m (i + 1) fuel H2 a' (ws ++ [c]) F' (by omega) (by omega) hfr2 hm'
  refine ⟨w, rv, H3, ?_, rest⟩
  rw [z_loop5]
  simp only [f6_l1, n_lss, decide_eq_true hlt, z_cond, cond_true, hx, h1, hp]
  rw [show (SV.int .i64 1) = i64 1 from rfl, n_addi _ (by omega)]
  exact h3
def Xw (ws : List SV) (r : Nat) : Prop := ∃ (q : Nat) (w : SV), ws[q]? = some w /\ inRow w r
structure SqL (lo : Nat) (Hs H : Heap) (ws : List SV) (T : List (List (List UInt8))) (i : Nat) : Prop where
 size : Hs.size <= H.size
 keep : ∀ r, ¬ Xw ws r -> r < Hs.size -> H.get r = Hs.get r
 ra : ∀ (q : Nat) w r, i <= q -> ws[q]? = some w -> T[q]? = some r -> Own lo H w (strs r)
theorem Xw.ge {lo : Nat} {Hs : Heap} {a : SV} {ws : List SV} {T : List (List (List UInt8))} {F : Nat -> Nat} (hm : Cp lo Hs a ws T T.length F) {r : Nat} (hx : Xw ws r) : lo <= r /\ F r ≠ 0 /\ r < Hs.size /\ ∀ row, Hs.get r = some row -> ∀ c ∈ row.cells, ∃ s, c = .str s := by
 obtain ⟨q, w, hw, hr⟩ := hx
 obtain ⟨t, ht⟩ : ∃ t, T[q]? = some t := ⟨_, List.getElem?_eq_getElem (by have := (List.getElem?_eq_some_iff.1 hw).1; have := hm.la; omega)⟩
 have ho := hm.ra q w t hw ht
 refine ⟨Own.geA ho hr, by have := hm.ga q w hw r hr; omega, Own.lt ho hr, fun row hg c hc => ?_⟩
 rw [Own.cells ho hr hg] at hc
 obtain ⟨s, _, rfl⟩ := List.mem_map.1 hc
 exact ⟨s, rfl⟩
abbrev spoilt : List UInt8 := [115, 112, 111, 105, 108, 116]
theorem read_in (K : Nat) (C : CallC) {lo : Nat} {Hs : Heap} {a : SV} {ws : List SV} {T : List (List (List UInt8))} {F : Nat -> Nat} (hm : Cp lo Hs a ws T T.length F) {i : Nat} {w : SV} {r : List (List UInt8)} (hw : ws[i]? = some w) (hr : T[i]? = some r) (hrl : r.length <= 100) (hi : i < 1000) (y56 y57 y59 y60 y61 y62 y64 : SV) (k39 : SV -> SV -> SV -> SV -> SV -> SV -> SV -> SV -> SV -> Heap -> Rs) : ∀ (m j fuel : Nat) (H : Heap) (cs : List SV), j + m = r.length -> m < fuel -> Hs.size <= H.size -> (∀ r, ¬ Xw ws r -> r < Hs.size -> H.get r = Hs.get r) -> Own lo H w cs -> cs.length = r.length -> (∀ (q : Nat) w r, i < q -> ws[q]? = some w -> T[q]? = some r -> Own lo H w (strs r)) ->
  ∃ H', slow.loop12 (f6_l8 slow K C k39) fuel y56 y57 a y59 y60 y61 y62 (i64 i) y64 (i64 i) (i64 r.length) (i64 j) H = k39 y56 y57 a y59 y60 y61 y62 y64 (i64 (i + 1)) H' /\ SqL lo Hs H' ws T (i + 1)
 | 0, j, fuel, H, cs, hjm, hf, hsz, hk, ho, hcl, hra => by
  obtain ⟨fuel, rfl⟩ : ∃ m, fuel = m + 1 := ⟨fuel - 1, by omega⟩
  have hj : ¬ j < r.length := by omega
  refine ⟨H, ?_, hsz, hk, fun q w' r' hq hw' hr' => hra q w' r' (by omega) hw' hr'⟩
  rw [z_loop12]
  simp only [f6_l8, n_lss, decide_eq_false hj, z_cond, cond_false]
  rw [show (SV.int .i64 1) = i64 1 from rfl, n_addi _ (by omega)]
 | m + 1, j, fuel, H, cs, hjm, hf, hsz, hk, ho, hcl, hra => by
  obtain ⟨fuel, rfl⟩ : ∃ m, fuel = m + 1 := ⟨fuel - 1, by omega⟩
  have hj : j < r.length := by omega
  have hX : ∀ q, inRow a q -> ¬ Xw ws q := fun q hq hx => (Xw.ge hm hx).2.1 (hm.fa q hq)
  have haH : Arr H a ws := (Own.of_rows hm.oa fun q hq => hk q (hX q hq) (Own.lt hm.oa hq)).arr
  obtain ⟨H1, st, ho1, f1, sz1, hro⟩ := ho.store (i := j) (by omega) (x := .str spoilt) rfl .i64
  have hin : ∀ q, inRow w q -> Xw ws q := fun q hq => ⟨i, w, hw, hq⟩
  obtain ⟨H2, h2, hs2⟩ := read_in K C hm hw hr hrl hi y56 y57 y59 y60 y61 y62 y64 k39 m (j + 1) fuel H1 _ (by omega) (by omega) (by omega) (fun q hx hq => by rw [hro q fun h => hx (hin q h)]; exact hk q hx hq) ho1 (by simp [hcl]) (fun q w' r' hq hw' hr' => Own.of_rows (hra q w' r' hq hw' hr') fun t ht => hro t fun h => by
   have := hm.ga i w hw t h
   have := hm.ga q w' hw' t ht
   omega)
  refine ⟨H2, ?_, hs2⟩
  rw [z_loop12]
  simp only [f6_l8, n_lss, decide_eq_true hj, z_cond, cond_true, haH.load hw, st]
  rw [show (SV.int .i64 1) = i64 1 from rfl, n_addi _ (by omega)]
  exact h2
theorem read_sp (K : Nat) (hK : 100000 < K) (d : Nat) {H0 Hs : Heap} {v a : SV} {ws : List SV} {T : List (List (List UInt8))} {F : Nat -> Nat} (hv : IsTexts H0 v T) (hcv : Cutable v) (h0s : Frame H0 Hs) (hm : Cp H0.size Hs a ws T T.length F) (hT : Few T) (y30 y32 y33 y34 y35 : SV) (P : SV -> Heap -> Prop)
  (hend : ∀ H fuel, SqL H0.size Hs H ws T T.length -> ∃ R H', slow.loop9 (f6_l5 slow K (runQ wk tab slow K (d + 1))) (fuel + 1) v y30 a y32 y33 y34 y35 (i64 T.length) (i64 T.length) H = some (R, H') /\ P R H') : ∀ (m i fuel : Nat) (H : Heap), i + m = T.length -> m < fuel -> SqL H0.size Hs H ws T i ->
  ∃ R H', slow.loop9 (f6_l5 slow K (runQ wk tab slow K (d + 1))) fuel v y30 a y32 y33 y34 y35 (i64 T.length) (i64 i) H = some (R, H') /\ P R H'
 | 0, i, fuel, H, him, hf, hs => by
  obtain ⟨fuel, rfl⟩ : ∃ m, fuel = m + 1 := ⟨fuel - 1, by omega⟩
  have hi : i = T.length := by omega
  subst hi
  exact hend H fuel hs
 | m + 1, i, fuel, H, him, hf, hs => by
  obtain ⟨fuel, rfl⟩ : ∃ m, fuel = m + 1 := ⟨fuel - 1, by omega⟩
  have hlt : i < T.length := by omega
  have hTl := hT.1
  obtain ⟨r, hr⟩ : ∃ r, T[i]? = some r := ⟨_, List.getElem?_eq_getElem hlt⟩
  have hrl := hT.2 r (List.mem_of_getElem? hr)
  obtain ⟨w, hw⟩ : ∃ w, ws[i]? = some w := ⟨_, List.getElem?_eq_getElem (by rw [hm.la]; exact hlt)⟩
  have hX : ∀ q, inRow a q -> ¬ Xw ws q := fun q hq hx => (Xw.ge hm hx).2.1 (hm.fa q hq)
  have hoa : Own H0.size H a ws := Own.of_rows hm.oa fun q hq => hs.keep q (hX q hq) (Own.lt hm.oa hq)
  have hvf : Frame H0 H := ⟨Nat.le_trans h0s.size hs.size, fun q hq => by
   rw [hs.keep q (fun hx => by have := (Xw.ge hm hx).1; omega) (Nat.lt_of_lt_of_le hq h0s.size), h0s.rows q hq]⟩
  obtain ⟨vs, hvs, hvl, hvr⟩ := hv.fr hvf
  obtain ⟨u, hu⟩ : ∃ u, vs[i]? = some u := ⟨_, List.getElem?_eq_getElem (by simp at hvl; omega)⟩
  have hua : Arr H u (strs r) := hvr i u _ hu (by simp [hr])
  have ow := hs.ra i w r (Nat.le_refl i) hw hr
  obtain ⟨p1, c1, a1⟩ := slice110_ok hoa.arr (Own.cuts hoa) hw
  obtain ⟨p2, c2, a2⟩ := slice110_ok hvs (Cuts.of H hcv) hu
  have t1 : IsTexts H p1 [r] := ⟨[w], a1, rfl, fun j x cs hx hc => by
   have hj : j = 0 := by have := (List.getElem?_eq_some_iff.1 hx).1; simpa using this
   subst hj
   simp at hx hc
   subst hx hc
   exact ow.arr⟩
  have t2 : IsTexts H p2 [r] := ⟨[u], a2, rfl, fun j x cs hx hc => by
   have hj : j = 0 := by have := (List.getElem?_eq_some_iff.1 hx).1; simpa using this
   subst hj
   simp at hx hc
   subst hx hc
   exact hua⟩
  have h5 := rows_ok K d H t1 t2 (by omega) (by simp) (fun q hq => by rw [List.mem_singleton.1 hq]; omega)
  have hwl : ∀ k, slow.len w k = k (i64 r.length) := fun k => by rw [ow.arr.len]; simp
  obtain ⟨H1, h1, hs1⟩ := read_in K (runQ wk tab slow K (d + 1)) hm hw hr hrl (by omega) v y30 y32 y33 y34 y35 (i64 T.length) (slow.loop9 (f6_l5 slow K (runQ wk tab slow K (d + 1))) fuel) r.length 0 K H (strs r) (by omega) (by omega) hs.size hs.keep ow (by simp) (fun q w' r' hq hw' hr' => hs.ra q w' r' (by omega) hw' hr')
  obtain ⟨R, H2, h2, hP⟩ := read_sp K hK d hv hcv h0s hm hT y30 y32 y33 y34 y35 P hend m (i + 1) fuel H1 (by omega) (by omega) hs1
  refine ⟨R, H2, ?_, hP⟩
  rw [z_loop9]
  simp only [f6_l5, n_lss, decide_eq_true hlt, z_cond, cond_true]
  rw [show (SV.int .i64 1) = i64 1 from rfl, n_addi _ (by omega), c1, n_addi _ (by omega), c2, h5]
  simp only [z_call, z_not, Bool.not_true, z_cond, cond_false, hoa.arr.load hw, hwl]
  rw [show (SV.int .i64 0) = i64 0 from rfl, h1]
  exact h2
theorem IsMatF.keepX {lo : Nat} {H H' : Heap} {v : SV} {rows : List (List Int)} (h : IsMatF lo H v rows) {X : Nat -> Prop} (hlo : ∀ r, X r -> r < lo) (hX : ∀ r row, X r -> H.get r = some row -> ∀ c ∈ row.cells, ∀ n, c ≠ .int .u32 n) (hro : ∀ r, ¬ X r -> r < H.size -> H'.get r = H.get r) : IsMatF lo H' v rows := by
 obtain ⟨w, e, h0, ws, h1, h2, h3⟩ := h
 refine ⟨w, e, h0, ws, Arr.keepV h1 (fun r hr hx => ?_) hro, h2, fun i w zs hw hz => ⟨(h3 i w zs hw hz).1.keepU (fun r hr hx => ?_) hX hro, (h3 i w zs hw hz).2⟩⟩
 ·have := h0 r hr; have := hlo r hx; omega
 ·have := (h3 i w zs hw hz).2 r hr; have := hlo r hx; omega
theorem Good.bigOk {A : List (List Int)} (h : Good A) : BigOk A := fun r hr => by
 have h1 := h.rect r hr
 have h2 := h.c16
 exact ⟨by omega, h.big r hr⟩
theorem same_both (K : Nat) (hK : 3000000 < K) (d : Nat) (H : Heap) {lo : Nat} {v w : SV} {e : Int} {A B : List (List Int)} (hg : Good A) (hB : B = if e = 0 then A else []) (hv : IsMat H v B) (hw : IsRRows lo H w B) :
  ∃ H', runQ wk tab slow K (d + 8) 20 [v, .int .i64 e, w, .int .i64 e] H = some (.bool true, H') /\ Frame H H' := by
 by_cases he : e = 0
 ·rw [if_pos he] at hB
  subst hB
  subst he
  exact same_mat K hK d H hv hw hg.bigOk (by have := hg.rows; omega)
 ·rw [if_neg he] at hB
  subst hB
  exact same_err K (by omega) (d + 3) H he hv
theorem parseM_if (T : List (List (List UInt8))) : parseM T = if parseE T = 0 then matOfE (txtNum T) T.length (colsT T) else [] := rfl
theorem read_ok (K : Nat) (hK : 3000000 < K) (d : Nat) (H : Heap) {v : SV} {T : List (List (List UInt8))} (hv : IsTexts H v T) (hcv : Cutable v) (hT : Few T) (hok : TextsOk K T) :
  ∃ w rv H', runQ wk tab slow K (d + 12) 6 [v] H = some (.tuple [.agg [w], rv, .bool true], H') /\ Frame H H' /\ IsMat H' (.agg [w]) (parseM T) /\ IsRRows H.size H' rv (parseM T) := by
 have hlen : ∀ k, slow.len v k = k (i64 T.length) := fun k => by rw [hv.len]; simp
 have hTl := hT.1
 show ∃ w rv H', f6 slow K (runQ wk tab slow K (d + 11)) v H = _ /\ _
 simp only [f6, hlen]
 refine read_cp K (by omega) (runQ wk tab slow K (d + 11)) hv hT (fun H1 a ws F fuel f1 hm => ?_) T.length 0 K H (.slice nilSl) [] (fun _ => 0) (by omega) (by omega) (Fr.refl _ _) { oa := Own.nil _ _, la := rfl, sa := (fun w hw => by cases hw), fa := (fun r hr => rfl), ra := (fun q w r hw => by simp at hw), ga := (fun q w hw => by simp at hw) }
 have ta : IsTexts H1 a T := ⟨ws, hm.oa.arr, by simp [hm.la], fun q w cs hw hc => by
  rw [List.getElem?_map, Option.map_eq_some_iff] at hc
  obtain ⟨r, hr, rfl⟩ := hc
  exact (hm.ra q w r hw hr).arr⟩
 obtain ⟨r2, H2, h2, f2, m2⟩ := mparse_ok K (by omega) (d + 3) H1 ta hok (by omega)
 obtain ⟨w, rfl⟩ := m2.agg
 obtain ⟨rv, H3, h3, f3, m3⟩ := rread_ok K hK (d + 4) H2 (hv.fr (Frame.trans f1 f2)) hok (by omega)
 have f23 := Frame.trans f2 f3
 have s2 := f2.size
 have hm3 : Cp H.size H3 a ws T T.length F := { oa := hm.oa.fr f23, la := hm.la, sa := hm.sa, fa := hm.fa, ga := hm.ga, ra := fun q w r hw hr => (hm.ra q w r hw hr).fr f23 }
 have m2' := m2.fr f3
 have hal : ∀ k, slow.len a k = k (i64 T.length) := fun k => by rw [hm3.oa.arr.len, hm.la]
 have hlo1 : ∀ r, Xw ws r -> r < H1.size := fun r hx => (Xw.ge hm hx).2.2.1
 have hXu : ∀ r row, Xw ws r -> H3.get r = some row -> ∀ c ∈ row.cells, ∀ n, c ≠ .int .u32 n := fun r row hx hg c hc n e => by
  obtain ⟨s, rfl⟩ := (Xw.ge hm3 hx).2.2.2 row hg c hc
  cases e
 obtain ⟨R, H4, h4, hP⟩ := read_sp K (by omega) (d + 10) hv hcv (Frame.trans f1 f23) hm3 hT (.box [.slice nilSl]) (.box [w]) (.int .i64 (parseE T)) rv (.int .i64 (parseE T)) (fun R H' => R = .tuple [.agg [w], rv, .bool true] /\ Frame H H' /\ IsMat H' (.agg [w]) (parseM T) /\ IsRRows H.size H' rv (parseM T)) (fun H4 fuel4 hs => by
  have k2 := m2'.keepX hlo1 hXu hs.keep
  have k3 := m3.keep (fun r hx => by have := hlo1 r hx; omega) hXu hs.keep
  have hg := parseM_good T
  have hsz : Frame H H4 := ⟨by have := f1.size; have := f23.size; have := hs.size; omega, fun q hq => by
   rw [hs.keep q (fun hx => by have := (Xw.ge hm hx).1; omega) (by have := f1.size; have := f23.size; omega), (Frame.trans f1 f23).rows q hq]⟩
  obtain ⟨H5, h5, f5⟩ : ∃ H5, runQ wk tab slow K (d + 3 + 8) 20 [.agg [w], .int .i64 (parseE T), rv, .int .i64 (parseE T)] H4 = some (.bool true, H5) /\ Frame H4 H5 := by
   refine same_both K hK (d + 3) H4 (A := parseM T) hg ?_ k2.mat k3
   by_cases he : parseE T = 0
   ·rw [if_pos he]
   ·rw [if_neg he, parseM_if, if_neg he]
  refine ⟨.tuple [.agg [w], rv, .bool true], H5, ?_, rfl, Frame.trans hsz f5, k2.mat.fr f5, ?_⟩
  ·rw [z_loop9]
   have hlt : ¬ T.length < T.length := Nat.lt_irrefl _
   have hrg : rv.good = true := by
    obtain ⟨vs, hvs, _⟩ := k3
    exact hvs.good
   simp only [f6_l5, n_lss, decide_eq_false hlt, z_cond, cond_false, z_lload1, h5, z_call, z_bst1, z_resc1, z_rest hrg, z_rest_bool]
  ·have k5 := k3.fr f5
   obtain ⟨vs, g1, g2, g3, g4⟩ := k5
   have hle : H.size <= H2.size := (Frame.trans f1 f2).size
   exact ⟨vs, g1, g2, fun r hr => Nat.le_trans hle (g3 r hr), fun i w zs hw hz => ⟨(g4 i w zs hw hz).1, fun r hr => Nat.le_trans hle ((g4 i w zs hw hz).2 r hr)⟩⟩) T.length 0 K H3 (by omega) (by omega) ⟨Nat.le_refl _, fun _ _ _ => rfl, fun q w r _ hw hr => hm3.ra q w r hw hr⟩
 obtain ⟨rfl, g1, g2, g3⟩ := hP
 refine ⟨w, rv, H4, ?_, g1, g2, g3⟩
 rw [z_loop5]
 have hlt : ¬ T.length < T.length := Nat.lt_irrefl _
 simp only [f6_l1, n_lss, decide_eq_false hlt, z_cond, cond_false, h2, z_call, z_ext0, z_ext1, z_bst1, h3, hal]
 exact h4
end Go.Sh.Of
