/- Contracts: gram.square of the machine's numbers, of pure entries; rows of one's own; spoil. -/
import Derived.Test.YtkgbokkeemjkkaaGreatKeep
set_option linter.unusedVariables false
set_option linter.unusedSimpArgs false
namespace Go.Sh.Of
open Go Go.Sh
variable {lo lo' n i j : Nat}
variable {H H' : Heap}
variable {v w : SV}
variable {ws : List SV}
variable {L : List (List Int)}
variable {r : List Int}
variable {E : Nat -> Nat -> Int}
def OwnRR (lo : Nat) (H : Heap) (v : SV) (L : List (List Int)) : Prop := ∃ ws, Own lo H v ws /\ ws.length = L.length /\ ∀ (q : Nat) w r, ws[q]? = some w -> L[q]? = some r -> Own lo H w (intsL .i64 r)
theorem own_isSlice {cs : List SV} (h : Own lo H v cs) : isSlice v := by
 obtain ⟨base, rfl, _⟩ := h
 trivial
theorem OwnRR.slices (hl : ws.length = L.length) (h : ∀ (q : Nat) w r, ws[q]? = some w -> L[q]? = some r -> Own lo H w (intsL .i64 r)) : ∀ w ∈ ws, isSlice w := fun w hw => by
 obtain ⟨i, hi⟩ := List.getElem?_of_mem hw
 obtain ⟨r, hr⟩ : ∃ r, L[i]? = some r := ⟨_, List.getElem?_eq_getElem (by have := (List.getElem?_eq_some_iff.1 hi).1; omega)⟩
 exact own_isSlice (h i w r hi hr)
theorem OwnRR.ownR (h : OwnRR lo H v L) : OwnR lo H v L := by
 obtain ⟨ws, h1, h2, h3⟩ := h
 exact ⟨ws, h1, h2, OwnRR.slices h2 h3, fun q w r hw hr => (h3 q w r hw hr).arr⟩
theorem OwnRR.nil (lo : Nat) (H : Heap) : OwnRR lo H (.slice nilSl) [] := ⟨[], Own.nil lo H, rfl, fun q w r hw => by simp at hw⟩
theorem OwnRR.fr (h : OwnRR lo H v L) (f : Frame H H') : OwnRR lo H' v L := by
 obtain ⟨ws, h1, h2, h3⟩ := h
 exact ⟨ws, h1.fr f, h2, fun q w r hw hr => (h3 q w r hw hr).fr f⟩
theorem OwnRR.mono (h : OwnRR lo H v L) (hl : lo' <= lo) : OwnRR lo' H v L := by
 obtain ⟨ws, h1, h2, h3⟩ := h
 exact ⟨ws, h1.mono hl, h2, fun q w r hw hr => (h3 q w r hw hr).mono hl⟩
theorem OwnRR.good (h : OwnRR lo H v L) : v.good = true := by
 obtain ⟨ws, ⟨base, rfl, _⟩, _⟩ := h
 rfl
theorem own_keep (hr : r ≠ []) (hv : Own lo H v ws) (hs : ∀ x ∈ ws, isSlice x) (hw : Own lo' H w (intsL .i64 r)) (hro : ∀ q, ¬ inRow v q -> q < H.size -> H'.get q = H.get q) : Own lo' H' w (intsL .i64 r) := by
 obtain ⟨base, rfl, h⟩ := hw
 refine ⟨base, rfl, ?_⟩
 rcases h with h | ⟨q, ver, rfl, h1, h2⟩
 ·exact .inl h
 ·by_cases hin : inRow v q
  ·have hc := Own.cells hv hin h2
   cases r with
   | nil => exact absurd rfl hr
   | cons z r =>
    have : SV.int .i64 z ∈ ws := by
     rw [<- hc]
     simp [intsL]
    exact (hs _ this).elim
  ·exact .inr ⟨q, ver, rfl, h1, by rw [hro q hin (Heap.get_lt h2)]; exact h2⟩
theorem OwnRR.push (h : OwnRR lo H v L) (hlo : lo <= H.size) (hl : L.length < 100000) (hne : ∀ r ∈ L, r ≠ []) {u : SV} (hr : r ≠ []) (hu : Own lo H u (intsL .i64 r)) :
  ∃ v' H', (∀ k, slow.hbuild 1 [.slice nilSl] [(0, 1)] [u] H (fun t H1 => slow.append 1 24 v t H1 k) = k v' H') /\ OwnRR lo H' v' (L ++ [r]) /\ Fr lo H H' := by
 obtain ⟨ws, h1, h2, h3⟩ := h
 have hs := OwnRR.slices h2 h3
 obtain ⟨v', H', g1, g2, g3, g4⟩ := push1 h1 hlo (.slice nilSl) (x := u) hu.arr.flat (by_ := 24) (roomy_small (by omega))
 refine ⟨v', H', g1, ⟨ws ++ [u], g2, by simp [h2], fun q w r' hw hr' => ?_⟩, g3⟩
 by_cases hq : q < ws.length
 ·rw [List.getElem?_append_left hq] at hw
  rw [List.getElem?_append_left (by omega)] at hr'
  exact own_keep (hne r' (List.mem_of_getElem? hr')) h1 hs (h3 q w r' hw hr') g4
 ·have hq2 : q = ws.length := by have := (List.getElem?_eq_some_iff.1 hw).1; simp at this; omega
  subst hq2
  simp at hw
  subst hw
  rw [h2] at hr'
  simp at hr'
  subst hr'
  exact own_keep hr h1 hs hu g4
def rowI (n : Nat) (E : Nat -> Nat -> Int) (i : Nat) : List Int := (List.range n).map (E i)
def sqM (n : Nat) (E : Nat -> Nat -> Int) : List (List Int) := (List.range n).map (rowI n E)
theorem rowI_len (n : Nat) (E : Nat -> Nat -> Int) (i : Nat) : (rowI n E i).length = n := by simp [rowI]
theorem rowI_ne (hn : 0 < n) (E : Nat -> Nat -> Int) (i : Nat) : rowI n E i ≠ [] := fun h => by
 have := rowI_len n E i
 rw [h] at this
 simp at this
 omega
theorem rowI_get (h : j < n) : (rowI n E i)[j]? = some (E i j) := by
 simp [rowI, h]
theorem rowI_of {zs : List Int} (hl : zs.length = n) (h : ∀ q, q < n -> zs[q]? = some (E i q)) : zs = rowI n E i := by
 apply List.ext_getElem?
 intro q
 by_cases hq : q < n
 ·rw [h q hq, rowI_get hq]
 ·rw [List.getElem?_eq_none (by omega), List.getElem?_eq_none (by rw [rowI_len]; omega)]
theorem ints_set (zs : List Int) (j : Nat) (z : Int) : (intsL .i64 zs).set j (.int .i64 z) = intsL .i64 (zs.set j z) := by
 simp [intsL, List.map_set]
def OwnI (lo : Nat) (H : Heap) (w : SV) (n : Nat) : Prop := ∃ zs : List Int, Own lo H w (intsL .i64 zs) /\ zs.length = n
def SpR (lo : Nat) (H : Heap) (v : SV) : Prop := ∃ ws, Own lo H v ws /\ ws.length < 1000 /\ ∀ w ∈ ws, ∃ n, n < 1000 /\ OwnI lo H w n
theorem OwnRR.sp (h : OwnRR lo H v L) (hl : FewI L) : SpR lo H v := by
 obtain ⟨ws, h1, h2, h3⟩ := h
 have hl1 := hl.1
 refine ⟨ws, h1, by omega, fun w hw => ?_⟩
 obtain ⟨i, hi⟩ := List.getElem?_of_mem hw
 obtain ⟨r, hr⟩ : ∃ r, L[i]? = some r := ⟨_, List.getElem?_eq_getElem (by have := (List.getElem?_eq_some_iff.1 hi).1; omega)⟩
 have := hl.2 r (List.mem_of_getElem? hr)
 exact ⟨r.length, by omega, r, h3 i w r hi hr, rfl⟩
theorem SpR.fr (h : SpR lo H v) (f : Frame H H') : SpR lo H' v := by
 obtain ⟨ws, h1, h2, h3⟩ := h
 refine ⟨ws, h1.fr f, h2, fun w hw => ?_⟩
 obtain ⟨n, hn, zs, g1, g2⟩ := h3 w hw
 exact ⟨n, hn, zs, g1.fr f, g2⟩
theorem spoil_one (h : OwnI lo H w n) (hj : j < n) :
  ∃ H', (∀ k, slow.idx 1 w (i64 j) (fun p => slow.store 1 p (.int .i64 (-77)) H k) = k H') /\ Fr lo H H' /\ (∀ u m lo', OwnI lo' H u m -> OwnI lo' H' u m) /\ (∀ u ws lo', (∀ x ∈ ws, isSlice x) -> Own lo' H u ws -> Own lo' H' u ws) /\ ∀ r, ¬ inRow w r -> H'.get r = H.get r := by
 obtain ⟨zs, o, e⟩ := h
 obtain ⟨base, rfl, h⟩ := o
 rcases h with ⟨_, h⟩ | ⟨r, ver, rfl, h1, h2⟩
 ·have : zs = [] := by simpa [intsL] using h
  subst this
  simp at e
  omega
 ·have o : Own lo H (.slice ⟨some (r, 0), (intsL .i64 zs).length, none, 0⟩) (intsL .i64 zs) := ⟨_, rfl, .inr ⟨r, ver, rfl, h1, h2⟩⟩
  obtain ⟨H', st, o1, f1, sz, hro⟩ := o.store (i := j) (by simp [intsL]; omega) (x := .int .i64 (-77)) rfl .i64
  rw [ints_set] at o1
  have inr : ∀ q, inRow (.slice ⟨some (r, 0), (intsL .i64 zs).length, none, 0⟩) q -> q = r := fun q ⟨s, of, e1, e2⟩ => by
   cases e1
   cases e2
   rfl
  have g1 : ∃ ver', H'.get r = some ⟨2, 1, ver', intsL .i64 (zs.set j (-77))⟩ := by
   obtain ⟨base', eb, hb⟩ := o1
   injection eb with eb
   injection eb with b1 _
   rcases hb with ⟨hb, hb2⟩ | ⟨r', ver', hb, _, g⟩
   ·rw [hb] at b1
    cases b1
   ·rw [hb] at b1
    cases b1
    exact ⟨ver', g⟩
  refine ⟨H', st, f1, fun u m lo' hu => ?_, fun u ws lo' hs hu => ?_, hro⟩
  ·obtain ⟨ys, p, e2⟩ := hu
   obtain ⟨base', rfl, hb⟩ := p
   rcases hb with ⟨rfl, hb⟩ | ⟨r', ver', rfl, q1, q2⟩
   ·exact ⟨ys, ⟨none, rfl, .inl ⟨rfl, hb⟩⟩, e2⟩
   ·by_cases er : r' = r
    ·subst er
     rw [h2] at q2
     injection q2 with q2
     injection q2 with _ _ _ q2
     obtain ⟨ver2, g⟩ := g1
     have el : zs.length = ys.length := by
      have : (intsL .i64 zs).length = (intsL .i64 ys).length := by rw [q2]
      simpa [intsL] using this
     refine ⟨zs.set j (-77), ⟨some (r', 0), ?_, .inr ⟨r', ver2, rfl, q1, g⟩⟩, by rw [List.length_set]; omega⟩
     simp [intsL, el]
    ·exact ⟨ys, ⟨some (r', 0), rfl, .inr ⟨r', ver', rfl, q1, by rw [hro r' fun hin => er (inr r' hin)]; exact q2⟩⟩, e2⟩
  ·obtain ⟨base', rfl, hb⟩ := hu
   rcases hb with ⟨rfl, hb⟩ | ⟨r', ver', rfl, q1, q2⟩
   ·exact ⟨none, rfl, .inl ⟨rfl, hb⟩⟩
   ·by_cases er : r' = r
    ·subst er
     rw [h2] at q2
     cases zs with
     | nil => simp at e; omega
     | cons z zs =>
      injection q2 with q2
      injection q2 with _ _ _ q2
      have : SV.int .i64 z ∈ ws := by rw [<- q2]; simp [intsL]
      exact (hs _ this).elim
    ·exact ⟨some (r', 0), rfl, .inr ⟨r', ver', rfl, q1, by rw [hro r' fun hin => er (inr r' hin)]; exact q2⟩⟩
theorem SpR.slices (h : ∀ w ∈ ws, ∃ n, n < 1000 /\ OwnI lo H w n) : ∀ w ∈ ws, isSlice w := fun w hw => by
 obtain ⟨n, _, zs, o, _⟩ := h w hw
 exact own_isSlice o
def SpK (H H' : Heap) : Prop := (∀ u m lo', OwnI lo' H u m -> OwnI lo' H' u m) /\ ∀ u ws lo', (∀ x ∈ ws, isSlice x) -> Own lo' H u ws -> Own lo' H' u ws
theorem SpK.refl (H : Heap) : SpK H H := ⟨fun _ _ _ h => h, fun _ _ _ _ h => h⟩
theorem SpK.trans {H'' : Heap} (h : SpK H H') (g : SpK H' H'') : SpK H H'' := ⟨fun u m lo' a => g.1 _ _ _ (h.1 _ _ _ a), fun u ws lo' a b => g.2 _ _ _ a (h.2 _ _ _ a b)⟩
theorem spoil_in (C : CallC) (K : Nat) {N : Nat} (hw : ws[i]? = some w) (hn : n < 1000) (hi : i < 1000) (hsl : ∀ x ∈ ws, isSlice x) (k6 : SV -> SV -> SV -> Heap -> Rs) : ∀ (m j fuel : Nat) (H : Heap), j + m = n -> m < fuel -> Own lo H v ws -> OwnI lo H w n ->
  ∃ H', slow.loop6 (f14_l3 slow K C k6) fuel v (i64 i) (i64 N) (i64 i) (i64 n) (i64 j) H = k6 v (i64 N) (i64 (i + 1)) H' /\ Fr lo H H' /\ SpK H H' /\ ∀ r, ¬ inRow w r -> H'.get r = H.get r
 | 0, j, fuel, H, hjm, hf, hv, ho => by
  obtain ⟨fuel, rfl⟩ := suc hf
  have hlt : ¬ j < n := by omega
  refine ⟨H, ?_, Fr.refl _ _, SpK.refl H, fun _ _ => rfl⟩
  rw [z_loop6]
  simp only [f14_l3, n_lss, decide_eq_false hlt, z_cond, cond_false, w_inc (show i < 1000000 by omega)]
 | m + 1, j, fuel, H, hjm, hf, hv, ho => by
  obtain ⟨fuel, rfl⟩ := suc hf
  have hlt : j < n := by omega
  have hld : ∀ k, slow.idx 1 v (i64 i) (fun p => slow.load 1 false p H k) = k w := fun k => hv.arr.load hw .i64 k
  obtain ⟨H1, st, f1, k1, k2, k3⟩ := spoil_one ho hlt
  obtain ⟨H2, h2, f2, s2, s3⟩ := spoil_in C K hw hn hi hsl k6 m (j + 1) fuel H1 (by omega) (by omega) (k2 _ _ _ hsl hv) (k1 _ _ _ ho)
  refine ⟨H2, ?_, Fr.trans f1 f2, SpK.trans ⟨k1, k2⟩ s2, fun r hr => (s3 r hr).trans (k3 r hr)⟩
  rw [z_loop6]
  simp only [f14_l3, n_lss, decide_eq_true hlt, z_cond, cond_true, hld, st, w_inc (show j < 1000000 by omega)]
  exact h2
theorem spoil_out (C : CallC) (K : Nat) (hK : 2000 < K) {v : SV} (hwl : ws.length < 1000) : ∀ (m i fuel : Nat) (H : Heap), i + m = ws.length -> m < fuel -> Own lo H v ws -> (∀ w ∈ ws, ∃ n, n < 1000 /\ OwnI lo H w n) ->
  ∃ H', slow.loop3 (f14_l1 slow K C) fuel v (i64 ws.length) (i64 i) H = some (.tuple [], H') /\ Fr lo H H' /\ SpK H H' /\ ∀ r, (∀ w ∈ ws, ¬ inRow w r) -> H'.get r = H.get r
 | 0, i, fuel, H, him, hf, hv, ho => by
  obtain ⟨fuel, rfl⟩ := suc hf
  have hlt : ¬ i < ws.length := by omega
  refine ⟨H, ?_, Fr.refl _ _, SpK.refl H, fun _ _ => rfl⟩
  rw [z_loop3]
  simp only [f14_l1, n_lss, decide_eq_false hlt, z_cond, cond_false]
 | m + 1, i, fuel, H, him, hf, hv, ho => by
  obtain ⟨fuel, rfl⟩ := suc hf
  have hlt : i < ws.length := by omega
  obtain ⟨w, hw⟩ : ∃ w, ws[i]? = some w := ⟨_, List.getElem?_eq_getElem hlt⟩
  have hld : ∀ k, slow.idx 1 v (i64 i) (fun p => slow.load 1 false p H k) = k w := fun k => hv.arr.load hw .i64 k
  obtain ⟨n, hn, o⟩ := ho w (List.mem_of_getElem? hw)
  have hsl := SpR.slices ho
  have lw : ∀ k, slow.len w k = k (i64 n) := fun k => by
   obtain ⟨zs, o1, e⟩ := o
   rw [arr_len o1.arr, e]
  obtain ⟨H1, h1, f1, s1, t1⟩ := spoil_in C K (v := v) (N := ws.length) hw hn (by omega) hsl (slow.loop3 (f14_l1 slow K C) fuel) n 0 K H (by omega) (by omega) hv o
  obtain ⟨H2, h2, f2, s2, t2⟩ := spoil_out C K hK hwl m (i + 1) fuel H1 (by omega) (by omega) (s1.2 _ _ _ hsl hv) (fun x hx => by
   obtain ⟨n', hn', o'⟩ := ho x hx
   exact ⟨n', hn', s1.1 _ _ _ o'⟩)
  refine ⟨H2, ?_, Fr.trans f1 f2, SpK.trans s1 s2, fun r hr => (t2 r hr).trans (t1 r (hr w (List.mem_of_getElem? hw)))⟩
  rw [z_loop3]
  simp only [f14_l1, n_lss, decide_eq_true hlt, z_cond, cond_true, hld, lw]
  rw [show (SV.int .i64 0) = i64 0 from rfl, h1]
  exact h2
theorem spoilB_ok (K : Nat) (hK : 2000 < K) (d : Nat) {Hc : Heap} (f : Frame Hc H) (h : SpR lo Hc v) :
  ∃ H', runQ wk tab slow K (d + 1) 14 [v] H = some (.tuple [], H') /\ Fr lo H H' /\ ∀ r, Hc.size <= r -> H'.get r = H.get r := by
 have h' := h.fr f
 obtain ⟨ws, h1, h2, h3⟩ := h
 have g1 := h1.fr f
 have g3 : ∀ w ∈ ws, ∃ n, n < 1000 /\ OwnI lo H w n := fun w hw => by
  obtain ⟨n, hn, zs, o, e⟩ := h3 w hw
  exact ⟨n, hn, zs, o.fr f, e⟩
 obtain ⟨H', k1, k2, _, k4⟩ := spoil_out (runQ wk tab slow K d) K hK h2 ws.length 0 K H (by omega) (by omega) g1 g3
 refine ⟨H', ?_, k2, fun r hr => k4 r fun w hw hin => ?_⟩
 ·show f14 slow K (runQ wk tab slow K d) v H = _
  simp only [f14, g1.arr.len]
  exact k1
 ·obtain ⟨n, hn, zs, o, e⟩ := h3 w hw
  have := (Own.bd o hin).2
  omega
end Go.Sh.Of
