/- Contracts of the reference's Same (rows of numbers), of twin and kept: rows of one's own with a number behind each. -/
import Derived.Test.YtfjgbobjpjkamaaGreatChk
set_option linter.unusedVariables false
set_option linter.unusedSimpArgs false
namespace Go.Sh.Of
open Go Go.Sh
theorem ints_row {H : Heap} {v : SV} {A : List (List Int)} (hv : IsInts2 H v A) {i : Nat} {r : List Int} (hr : A[i]? = some r) : ∃ w, (∀ k, slow.idx 1 v (i64 i) (fun p => slow.load 1 false p H k) = k w) /\ Arr H w (intsL .i64 r) := by
 obtain ⟨ws, hW⟩ := IntsW.of hv
 obtain ⟨w, hw⟩ : ∃ w, ws[i]? = some w := ⟨_, List.getElem?_eq_getElem (by rw [hW.2.1]; exact (List.getElem?_eq_some_iff.1 hr).1)⟩
 exact ⟨w, fun k => hW.1.load hw .i64 k, hW.2.2 i w r hw hr⟩
theorem arr_len {H : Heap} {w : SV} {r : List Int} (h : Arr H w (intsL .i64 r)) (k : K1) : slow.len w k = k (i64 r.length) := by
 rw [h.len]
 simp [intsL]
theorem arr_at {H : Heap} {w : SV} {r : List Int} (h : Arr H w (intsL .i64 r)) {j : Nat} {z : Int} (hz : r[j]? = some z) (k : K1) : slow.idx 1 w (i64 j) (fun p => slow.load 1 false p H k) = k (.int .i64 z) :=
 h.load (by simp [intsL, hz]) .i64 k
theorem same7_in (C : CallC) (K : Nat) {H : Heap} {v w : SV} {A : List (List Int)} (hv : IsInts2 H v A) (hw : IsInts2 H w A) {i : Nat} {r : List Int} (hr : A[i]? = some r) (hi : i < 1000) (hrl : r.length < 1000) (k9 : SV -> SV -> SV -> Heap -> Rs) : ∀ (m j fuel : Nat), j + m = r.length -> m < fuel ->
  slow.loop4 (f32_l5 slow K C k9) fuel v w (i64 i) (i64 j) H = k9 v w (i64 (i + 1)) H
 | 0, j, fuel, hjm, hf => by
  obtain ⟨fuel, rfl⟩ : ∃ q, fuel = q + 1 := ⟨fuel - 1, by omega⟩
  have hlt : ¬ j < r.length := by omega
  obtain ⟨u, l1, a1⟩ := ints_row hv hr
  rw [z_loop4]
  simp only [f32_l5, l1, arr_len a1, n_lss, decide_eq_false hlt, z_cond, cond_false, w_inc (show i < 1000000 by omega)]
 | m + 1, j, fuel, hjm, hf => by
  obtain ⟨fuel, rfl⟩ : ∃ q, fuel = q + 1 := ⟨fuel - 1, by omega⟩
  have hlt : j < r.length := by omega
  obtain ⟨u, l1, a1⟩ := ints_row hv hr
  obtain ⟨t, l2, a2⟩ := ints_row hw hr
  obtain ⟨z, hz⟩ : ∃ z, r[j]? = some z := ⟨_, List.getElem?_eq_getElem hlt⟩
  rw [z_loop4]
  simp only [f32_l5, l1, arr_len a1, n_lss, decide_eq_true hlt, z_cond, cond_true, l2, arr_at a1 hz, arr_at a2 hz, z_neq, bne_self_eq_false, cond_false, w_inc (show j < 1000000 by omega)]
  exact same7_in C K hv hw hr hi hrl k9 m (j + 1) fuel (by omega) (by omega)
theorem same7_out (C : CallC) (K : Nat) (hK : 2000 < K) {H : Heap} {v w : SV} {A : List (List Int)} (hv : IsInts2 H v A) (hw : IsInts2 H w A) (hA : FewI A) : ∀ (m i fuel : Nat), i + m = A.length -> m < fuel ->
  slow.loop3 (f32_l2 slow K C) fuel v w (i64 i) H = some (.bool true, H)
 | 0, i, fuel, him, hf => by
  obtain ⟨fuel, rfl⟩ : ∃ q, fuel = q + 1 := ⟨fuel - 1, by omega⟩
  have hlt : ¬ i < A.length := by omega
  rw [z_loop3]
  simp only [f32_l2, ints_len hv, n_lss, decide_eq_false hlt, z_cond, cond_false]
 | m + 1, i, fuel, him, hf => by
  obtain ⟨fuel, rfl⟩ : ∃ q, fuel = q + 1 := ⟨fuel - 1, by omega⟩
  have hlt : i < A.length := by omega
  have hA1 := hA.1
  obtain ⟨r, hr⟩ : ∃ r, A[i]? = some r := ⟨_, List.getElem?_eq_getElem hlt⟩
  have hrl := hA.2 r (List.mem_of_getElem? hr)
  obtain ⟨u, l1, a1⟩ := ints_row hv hr
  obtain ⟨t, l2, a2⟩ := ints_row hw hr
  have hn : decide (r.length ≠ r.length) = false := decide_eq_false fun h => h rfl
  rw [z_loop3]
  simp only [f32_l2, ints_len hv, n_lss, decide_eq_true hlt, z_cond, cond_true, l1, l2, arr_len a1, arr_len a2, n_neq, hn, cond_false]
  rw [show (SV.int .i64 0) = i64 0 from rfl, same7_in C K hv hw hr (by omega) (by omega) _ r.length 0 K (by omega) (by omega)]
  exact same7_out C K hK hv hw hA m (i + 1) fuel (by omega) (by omega)
theorem same7_ok (K : Nat) (hK : 2000 < K) (d : Nat) (H : Heap) {v w : SV} {A : List (List Int)} (hv : IsInts2 H v A) (hw : IsInts2 H w A) (hA : FewI A) :
  runQ wk tab slow K (d + 1) 32 [v, w] H = some (.bool true, H) := by
 have hA1 := hA.1
 have hn : decide (A.length ≠ A.length) = false := decide_eq_false fun h => h rfl
 show f32 slow K (runQ wk tab slow K d) v w H = _
 simp only [f32, ints_len hv, ints_len hw, n_neq, hn, z_cond, cond_false]
 rw [show (SV.int .i64 0) = i64 0 from rfl]
 exact same7_out _ K hK hv hw hA A.length 0 K (by omega) (by omega)
def TwinR (lo : Nat) (H : Heap) (w : SV) (r : List Int) : Prop := ∃ q ver, lo <= q /\ w = .slice ⟨some (q, 0), r.length, none, 0⟩ /\ H.get q = some ⟨2, 1, ver, intsL .i64 r ++ [.int .i64 78]⟩
def Twin (lo : Nat) (H : Heap) (v : SV) (A : List (List Int)) : Prop := ∃ ws, Own lo H v ws /\ ws.length = A.length /\ ∀ (i : Nat) w r, ws[i]? = some w -> A[i]? = some r -> TwinR lo H w r
theorem TwinR.fr {lo : Nat} {H H' : Heap} {w : SV} {r : List Int} (h : TwinR lo H w r) (f : Frame H H') : TwinR lo H' w r := by
 obtain ⟨q, ver, h1, h2, h3⟩ := h
 exact ⟨q, ver, h1, h2, by rw [f.rows q (Heap.get_lt h3)]; exact h3⟩
theorem Twin.fr {lo : Nat} {H H' : Heap} {v : SV} {A : List (List Int)} (h : Twin lo H v A) (f : Frame H H') : Twin lo H' v A := by
 obtain ⟨ws, h1, h2, h3⟩ := h
 exact ⟨ws, h1.fr f, h2, fun i w r hw hr => (h3 i w r hw hr).fr f⟩
theorem TwinR.arr {lo : Nat} {H : Heap} {w : SV} {r : List Int} (h : TwinR lo H w r) : Arr H w (intsL .i64 r) := by
 obtain ⟨q, ver, h1, rfl, h3⟩ := h
 refine ⟨_, rfl, by simp [intsL], .inr ⟨q, 0, _, rfl, h3, by simp, fun i x hx => ?_⟩⟩
 show (intsL .i64 r ++ [.int .i64 78])[0 + i]? = some x
 rw [Nat.zero_add, List.getElem?_append_left (List.getElem?_eq_some_iff.1 hx).1]
 exact hx
theorem TwinR.slice {lo : Nat} {H : Heap} {w : SV} {r : List Int} (h : TwinR lo H w r) : isSlice w := by
 obtain ⟨q, ver, h1, rfl, h3⟩ := h
 trivial
theorem Twin.ints {lo : Nat} {H : Heap} {v : SV} {A : List (List Int)} (h : Twin lo H v A) : IsInts2 H v A := by
 obtain ⟨ws, h1, h2, h3⟩ := h
 have hs : ∀ w ∈ ws, isSlice w := fun w hw => by
  obtain ⟨i, hi⟩ := List.getElem?_of_mem hw
  obtain ⟨r, hr⟩ : ∃ r, A[i]? = some r := ⟨_, List.getElem?_eq_getElem (by have := (List.getElem?_eq_some_iff.1 hi).1; omega)⟩
  exact (h3 i w r hi hr).slice
 exact OwnR.ints ⟨ws, h1, h2, hs, fun i w r hw hr => (h3 i w r hw hr).arr⟩
theorem twin_row {lo : Nat} {H : Heap} {t : SV} {r : List Int} (ht : Own lo H t (intsL .i64 r)) (hlo : lo <= H.size) (hl : r.length < 100000) :
  ∃ t' w H', (∀ k, slow.hbuild 1 [.int .i64 0] [(0, 1)] [.int .i64 78] H (fun u H1 => slow.append 1 8 t u H1 k) = k t' H') /\ (∀ k, slow.slice010 1 t' (i64 r.length) H' k = k w) /\ TwinR lo H' w r /\ Fr lo H H' := by
 obtain ⟨t', H', h1, o1, f1, _⟩ := push1 ht hlo (.int .i64 0) (x := .int .i64 78) rfl (by_ := 8) (roomy_small (by simp [intsL]; omega))
 have hlen : (intsL .i64 r ++ [SV.int .i64 78]).length = r.length + 1 := by simp [intsL]
 obtain ⟨base, rfl, h⟩ := o1
 rcases h with ⟨_, h⟩ | ⟨q, ver, rfl, h2, h3⟩
 ·rw [h] at hlen
  simp at hlen
 ·refine ⟨_, .slice ⟨some (q, 0), r.length, none, 0⟩, H', h1, fun k => ?_, ⟨q, ver, h2, rfl, h3⟩, f1⟩
  have hfit : fitsCap H' 1 ⟨some (q, 0), (intsL .i64 r ++ [SV.int .i64 78]).length, none, 0⟩ (r.length : Int) = true := by
   unfold fitsCap
   rw [decide_eq_true (by rw [hlen]; show (r.length : Int) <= ((r.length + 1 : Nat) : Int); omega)]
   rfl
  have hesz : eszOk H' 1 ⟨some (q, 0), (intsL .i64 r ++ [SV.int .i64 78]).length, none, 0⟩ 0 = true := rfl
  show (opR (.slice 1 false true false) [.slice _, .int .i64 r.length] H').bind k = _
  simp only [opR, sliceOp, loOf]
  rw [if_pos ⟨by omega, by omega, hfit, hesz⟩]
  simp [subSl]
theorem twin_back {lo : Nat} {H : Heap} {w : SV} {r : List Int} (h : TwinR lo H w r) :
  ∃ u, (∀ k, slow.slice011 1 w (i64 (r.length + 1)) (i64 (r.length + 1)) H k = k u) /\ ∀ k, slow.idx 1 u (i64 r.length) (fun p => slow.load 1 false p H k) = k (.int .i64 78) := by
 obtain ⟨q, ver, _, rfl, h3⟩ := h
 have hlen : (intsL .i64 r ++ [SV.int .i64 78]).length = r.length + 1 := by simp [intsL]
 have hcap : capOf H 1 ⟨some (q, 0), r.length, none, 0⟩ = some (r.length + 1) := by
  unfold capOf
  simp only [h3]
  have e1 : Nat.beq 2 0 = false := rfl
  have e2 : Nat.beq 1 1 = true := rfl
  simp [e1, e2, intsL]
 have hfit : fitsCap H 1 ⟨some (q, 0), r.length, none, 0⟩ ((r.length + 1 : Nat) : Int) = true := by
  unfold fitsCap
  rw [hcap]
  simp
 refine ⟨.slice ⟨some (q, 0), r.length + 1, some (r.length + 1), 0⟩, fun k => ?_, fun k => ?_⟩
 ·show (opR (.slice 1 false true true) [.slice _, .int .i64 _, .int .i64 _] H).bind k = _
  simp only [opR, sliceOp, loOf]
  rw [if_pos ⟨by omega, by omega, by omega, hfit, .inl (by omega)⟩]
  simp [subSl]
 ·have hA : Arr H (.slice ⟨some (q, 0), r.length + 1, some (r.length + 1), 0⟩) (intsL .i64 r ++ [.int .i64 78]) := ⟨_, rfl, by rw [hlen], .inr ⟨q, 0, _, rfl, h3, by simp, fun i x hx => by simpa using hx⟩⟩
  refine hA.load ?_ .i64 k
  rw [List.getElem?_append_right (by simp [intsL])]
  simp [intsL]
theorem twin_loop (C : CallC) (K : Nat) {H0 : Heap} {v : SV} {A : List (List Int)} (hv : IsInts2 H0 v A) (hA : FewI A) : ∀ (m i fuel : Nat) (H : Heap) (out : SV), i + m = A.length -> m < fuel -> Frame H0 H -> Twin H0.size H out (A.take i) ->
  ∃ w H', slow.loop4 (f6_l1 slow K C) fuel v out (i64 A.length) (i64 i) H = some (w, H') /\ Frame H0 H' /\ Twin H0.size H' w A
 | 0, i, fuel, H, out, him, hf, hfr, ho => by
  obtain ⟨fuel, rfl⟩ : ∃ q, fuel = q + 1 := ⟨fuel - 1, by omega⟩
  have hlt : ¬ i < A.length := by omega
  have e : A.take i = A := List.take_of_length_le (by omega)
  rw [e] at ho
  have hg : out.good = true := by
   obtain ⟨ws, h1, _⟩ := ho
   obtain ⟨base, rfl, _⟩ := h1
   rfl
  refine ⟨out, H, ?_, hfr, ho⟩
  rw [z_loop4]
  simp only [f6_l1, n_lss, decide_eq_false hlt, z_cond, cond_false, z_rest hg]
 | m + 1, i, fuel, H, out, him, hf, hfr, ho => by
  obtain ⟨fuel, rfl⟩ : ∃ q, fuel = q + 1 := ⟨fuel - 1, by omega⟩
  have hlt : i < A.length := by omega
  have hA1 := hA.1
  obtain ⟨r, hr⟩ : ∃ r, A[i]? = some r := ⟨_, List.getElem?_eq_getElem hlt⟩
  have hrl := hA.2 r (List.mem_of_getElem? hr)
  obtain ⟨u, l1, a1⟩ := ints_row (IsRowsC.fr hv hfr) hr
  obtain ⟨t, H1, h1, o1, f1, _⟩ := (Own.nil H.size H).append (Nat.le_refl _) a1 (by_ := 8) (roomy_small (by simp [intsL]; omega))
  rw [List.nil_append] at o1
  obtain ⟨t', w, H2, h2, h3, tw, f2⟩ := twin_row o1 f1.size (by omega)
  have F2 : Frame H H2 := Fr.trans f1 f2
  obtain ⟨u2, l2, a2⟩ := ints_row (IsRowsC.fr hv (Frame.trans hfr F2)) hr
  obtain ⟨ws, p1, p2, p3⟩ := ho
  have hwf : w.flat = true := by
   obtain ⟨q, ver, _, rfl, _⟩ := tw
   rfl
  have p1' := p1.fr F2
  obtain ⟨out', H3, h4, o4, f4, hro⟩ := push1 p1' (Nat.le_trans hfr.size F2.size) (.slice nilSl) (x := w) hwf (by_ := 24) (roomy_small (by have := p2; simp at this; omega))
  have hsl : ∀ x ∈ ws, isSlice x := fun x hx => by
   obtain ⟨q, hq⟩ := List.getElem?_of_mem hx
   obtain ⟨r', hr'⟩ : ∃ r', (A.take i)[q]? = some r' := ⟨_, List.getElem?_eq_getElem (by have := (List.getElem?_eq_some_iff.1 hq).1; omega)⟩
   exact (p3 q x r' hq hr').slice
  have keep : ∀ x r', TwinR H0.size H2 x r' -> TwinR H0.size H3 x r' := fun x r' ⟨q, ver, g1, g2, g3⟩ => by
   refine ⟨q, ver, g1, g2, ?_⟩
   rw [hro q (fun hin => ?_) (Heap.get_lt g3)]
   ·exact g3
   ·have := Own.cells p1' hin g3
    have hm : SV.int .i64 78 ∈ ws := by rw [<- this]; simp
    exact hsl _ hm
  have hT : Twin H0.size H3 out' (A.take (i + 1)) := by
   refine ⟨_, o4, by rw [List.length_append, p2, List.length_take, List.length_take]; simp; omega, fun q x r' hx hr' => ?_⟩
   have hil : (A.take i).length = i := by rw [List.length_take]; omega
   by_cases hq : q < ws.length
   ·rw [List.getElem?_append_left hq] at hx
    have hr2 : (A.take i)[q]? = some r' := by
     rw [List.getElem?_take] at hr' ⊢
     rw [if_pos (by omega)] at hr' ⊢
     exact hr'
    exact keep x r' ((p3 q x r' hx hr2).fr F2)
   ·have hq2 : q = ws.length := by have := (List.getElem?_eq_some_iff.1 hx).1; simp at this; omega
    subst hq2
    simp at hx
    subst hx
    rw [p2, hil, List.getElem?_take, if_pos (by omega), hr] at hr'
    cases hr'
    obtain ⟨q, ver, g1, g2, g3⟩ := tw
    exact keep w r ⟨q, ver, Nat.le_trans hfr.size g1, g2, g3⟩
  obtain ⟨w', H4, h5, g5⟩ := twin_loop C K hv hA m (i + 1) fuel H3 out' (by omega) (by omega) (Fr.trans (Frame.trans hfr F2) f4) hT
  refine ⟨w', H4, ?_, g5⟩
  rw [z_loop4]
  simp only [f6_l1, n_lss, decide_eq_true hlt, z_cond, cond_true, l1, h1, h2, l2, arr_len a2, h3, h4, w_inc (show i < 1000000 by omega)]
  exact h5
theorem twin_ok (K : Nat) (hK : 1000 < K) (d : Nat) (H : Heap) {v : SV} {A : List (List Int)} (hv : IsInts2 H v A) (hA : FewI A) :
  ∃ w H', runQ wk tab slow K (d + 1) 6 [v] H = some (w, H') /\ Frame H H' /\ Twin H.size H' w A := by
 have hA1 := hA.1
 obtain ⟨w, H', h1, g1⟩ := twin_loop (runQ wk tab slow K d) K hv hA A.length 0 K H (.slice nilSl) (by omega) (by omega) (Fr.refl _ _) ⟨[], Own.nil _ _, by simp, fun i w r hw => by simp at hw⟩
 refine ⟨w, H', ?_, g1⟩
 show f6 slow K (runQ wk tab slow K d) v H = _
 simp only [f6, ints_len hv]
 exact h1
theorem kept_loop (C : CallC) (K : Nat) {H : Heap} {lo : Nat} {v : SV} {A : List (List Int)} (ht : Twin lo H v A) (hA : FewI A) : ∀ (m i fuel : Nat), i + m = A.length -> m < fuel ->
  slow.loop3 (f11_l2 slow K C) fuel v (i64 A.length) (i64 i) H = some (.bool true, H)
 | 0, i, fuel, him, hf => by
  obtain ⟨fuel, rfl⟩ : ∃ q, fuel = q + 1 := ⟨fuel - 1, by omega⟩
  have hlt : ¬ i < A.length := by omega
  rw [z_loop3]
  simp only [f11_l2, n_lss, decide_eq_false hlt, z_cond, cond_false]
 | m + 1, i, fuel, him, hf => by
  obtain ⟨fuel, rfl⟩ : ∃ q, fuel = q + 1 := ⟨fuel - 1, by omega⟩
  have hlt : i < A.length := by omega
  have hA1 := hA.1
  have ht' := ht
  obtain ⟨ws, p1, p2, p3⟩ := ht'
  obtain ⟨r, hr⟩ : ∃ r, A[i]? = some r := ⟨_, List.getElem?_eq_getElem hlt⟩
  have hrl := hA.2 r (List.mem_of_getElem? hr)
  obtain ⟨w, hw⟩ : ∃ w, ws[i]? = some w := ⟨_, List.getElem?_eq_getElem (by omega)⟩
  have hld : ∀ k, slow.idx 1 v (i64 i) (fun p => slow.load 1 false p H k) = k w := fun k => p1.arr.load hw .i64 k
  have tw := p3 i w r hw hr
  obtain ⟨u, g1, g2⟩ := twin_back tw
  rw [z_loop3]
  simp only [f11_l2, n_lss, decide_eq_true hlt, z_cond, cond_true, hld, arr_len tw.arr, w_inc (show r.length < 1000000 by omega), g1, g2, z_neq, bne_self_eq_false, cond_false, w_inc (show i < 1000000 by omega)]
  exact kept_loop C K ht hA m (i + 1) fuel (by omega) (by omega)
theorem kept_ok (K : Nat) (hK : 2000 < K) (d : Nat) (H : Heap) {lo : Nat} {v w : SV} {A : List (List Int)} (hv : IsInts2 H v A) (ht : Twin lo H w A) (hA : FewI A) :
  runQ wk tab slow K (d + 2) 11 [v, w] H = some (.bool true, H) := by
 have hA1 := hA.1
 have h1 := same7_ok K hK d H hv ht.ints hA
 show f11 slow K (runQ wk tab slow K (d + 1)) v w H = _
 simp only [f11, h1, z_call, z_not, Bool.not_true, z_cond, cond_false, ints_len ht.ints]
 exact kept_loop _ K ht hA A.length 0 K (by omega) (by omega)
end Go.Sh.Of
