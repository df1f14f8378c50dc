/- Rows of texts as arguments: laid down for the machine. law05: beyond: no more than 100 rows and columns, if it says so. law05: shaped; three rows of texts laid side by side. -/
import Derived.Test.YtfmdgondhgdieaaGreatMat
import Derived.Deep.Matrix
import Derived.SliceStrings
import Derived.Deep.Slices
set_option linter.unusedVariables false
set_option linter.unusedSimpArgs false
namespace Go.Sh.Of
open Go Go.Sh
def IsRowS (w : World) (a : Option Addr) (len cap : Nat) (zs : List (List UInt8)) : Prop :=
 (a = none /\ len = 0 /\ cap = 0 /\ zs = []) \/
 ∃ x, a = some x /\ len <= cap /\ zs.length = cap /\ (∀ (i : Nat) s, zs[i]? = some s -> w.cell? (x.add i) = some (.string ⟨s.toArray⟩) /\ s.length <= maxLen)
theorem IsRowS.short {w : World} {a : Option Addr} {len cap : Nat} {zs : List (List UInt8)} (h : IsRowS w a len cap zs) : ∀ s ∈ zs, s.length <= maxLen := by
 rcases h with ⟨_, _, _, rfl⟩ | ⟨x, _, _, _, hc⟩
 ·intro s hs; cases hs
 ·intro s hs
  obtain ⟨i, hi⟩ := List.getElem?_of_mem hs
  exact (hc i s hi).2
def ShortT (T : List (List (List UInt8))) : Prop := ∀ r ∈ T, ∀ s ∈ r, s.length <= maxLen
theorem strsA {W : World} {H : Heap} {ρ : Place} (h : Start W H ρ) {a : Option Addr} {len cap : Nat} {zs : List (List UInt8)} (hr : IsRowS W a len cap zs) :
  ∃ H' ρ' sv, Start W H' ρ' /\ More H ρ H' ρ' /\ Go.Sh.okSV ρ' H'.size sv /\ conc ρ' sv = .slice a len cap /\ Arr H' sv (strs (zs.take len)) /\ sv.flat = true := by
 rcases hr with ⟨rfl, rfl, rfl, rfl⟩ | ⟨x, rfl, hl, hz, hcell⟩
 ·exact ⟨H, ρ, .slice nilSl, h, More.refl _ _, by simp [Go.Sh.okSV, nilSl, capC], by simp [conc, nilSl, capC], by simpa using Arr.nil H, rfl⟩
 ·obtain ⟨H', ρ', sv, h1, h2, h3, h4, h5, h6⟩ := h.push_any hl (x := x) (cs := strs zs) (by simpa using hz) (fun v hv => by
   obtain ⟨n, _, rfl⟩ := List.mem_map.1 hv
   exact ⟨by simp [Go.Sh.okSV], rfl⟩) (fun i v hi => by
   rw [List.getElem?_map, Option.map_eq_some_iff] at hi
   obtain ⟨n, hn, rfl⟩ := hi
   rw [(hcell i n hn).1]
   simp [conc])
  exact ⟨H', ρ', sv, h1, h2, h3, h4, by simpa [strs, List.map_take] using h5, h6.1⟩
theorem strRows {W : World} {A : Nat -> Option Addr} {L C : Nat -> Nat} {Z : Nat -> List (List UInt8)} : ∀ (cap : Nat) {H : Heap} {ρ : Place} (h : Start W H ρ) (hr : ∀ r, r < cap -> IsRowS W (A r) (L r) (C r) (Z r)),
  ∃ (H' : Heap) (ρ' : Place) (svs : List SV), Start W H' ρ' /\ More H ρ H' ρ' /\ svs.length = cap /\ ∀ (r : Nat) sv, svs[r]? = some sv -> Go.Sh.okSV ρ' H'.size sv /\ conc ρ' sv = .slice (A r) (L r) (C r) /\ Arr H' sv (strs ((Z r).take (L r))) /\ sv.flat = true
 | 0, H, ρ, h, hr => ⟨H, ρ, [], h, More.refl _ _, rfl, fun r sv hs => by simp at hs⟩
 | cap + 1, H, ρ, h, hr => by
  obtain ⟨H1, ρ1, svs, s1, m1, l1, g1⟩ := strRows cap h (fun r hl => hr r (by omega))
  obtain ⟨H2, ρ2, sv, s2, m2, o2, c2, a2, f2⟩ := strsA s1 (hr cap (by omega))
  refine ⟨H2, ρ2, svs ++ [sv], s2, m1.trans m2, by simp [l1], fun r sv' hs => ?_⟩
  by_cases hq : r < svs.length
  ·rw [List.getElem?_append_left hq] at hs
   obtain ⟨o, c, a, f⟩ := g1 r sv' hs
   obtain ⟨o', c'⟩ := m2.okSV o
   exact ⟨o', c'.trans c, a.fr m2.fr, f⟩
  ·have hq2 : r = svs.length := by have := (List.getElem?_eq_some_iff.1 hs).1; simp at this; omega
   subst hq2
   simp at hs
   subst hs
   rw [l1]
   exact ⟨o2, c2, a2, f2⟩
theorem strGrid {W : World} {H : Heap} {ρ : Place} (h : Start W H ρ) {x : Addr} {len cap : Nat} {A : Nat -> Option Addr} {L C : Nat -> Nat} {Z : Nat -> List (List UInt8)} (hlen : len <= cap) (hr : ∀ r, r < cap -> IsRowS W (A r) (L r) (C r) (Z r)) (hcell : ∀ r, r < cap -> W.cell? (x.add r) = some (.slice (A r) (L r) (C r))) :
  ∃ (H' : Heap) (ρ' : Place) (sv : SV) (T : List (List (List UInt8))), Start W H' ρ' /\ More H ρ H' ρ' /\ Go.Sh.okSV ρ' H'.size sv /\ conc ρ' sv = .slice (some x) len cap /\ IsTexts H' sv T /\ ShortT T /\ Cutable sv := by
 obtain ⟨H1, ρ1, svs, s1, m1, l1, g1⟩ := strRows cap h hr
 obtain ⟨H2, ρ2, sv, s2, m2, o2, c2, a2, _, cu⟩ := s1.push_any hlen (x := x) l1 (fun v hv => by
  obtain ⟨r, hr⟩ := List.getElem?_of_mem hv
  exact ⟨(g1 r v hr).1, (g1 r v hr).2.2.2⟩) (fun i v hi => by
  rw [(g1 i v hi).2.1]
  exact hcell i (by have := (List.getElem?_eq_some_iff.1 hi).1; omega))
 refine ⟨H2, ρ2, sv, (List.range len).map fun r => (Z r).take (L r), s2, m1.trans m2, o2, c2, ⟨svs.take len, a2, by simp; omega, fun r w cs hw hc => ?_⟩, fun r hr' s hs => ?_, cu⟩
 ·rw [List.getElem?_take] at hw
  split at hw
  ·rename_i hlt
   simp [hlt] at hc
   subst hc
   have := ((g1 r w hw).2.2.1).fr m2.fr
   simpa [strs, List.map_take] using this
  ·cases hw
 ·obtain ⟨i, hi, rfl⟩ := List.mem_map.1 hr'
  exact (hr i (by have := List.mem_range.1 hi; omega)).short s (List.mem_of_mem_take hs)
section
variable {HH : Type} {enc : TypeId × Value -> HH} {P : Program} {w : World} {held : Bool}
theorem lay_texts {t e q : TypeId} {fuel : Nat} {a : Option Addr} {len cap : Nat} {x : DataW HH × List MemPlace} (ht : P.underlying t = some (.slice e)) (he : P.underlying e = some (.slice q)) (hq : P.underlying q = some .string)
  (ce : P.cellsOf e = 1) (cq : P.cellsOf q = 1) (h : DataW.trod enc P w 0 (fun _ => true) held fuel t [.slice a len cap] = some x) {H : Heap} {ρ : Place} (hs : Start w H ρ) :
  ∃ (H' : Heap) (ρ' : Place) (sv : SV) (T : List (List (List UInt8))), Start w H' ρ' /\ More H ρ H' ρ' /\ Go.Sh.okSV ρ' H'.size sv /\ conc ρ' sv = .slice a len cap /\ IsTexts H' sv T /\ ShortT T /\ Cutable sv := by
 rcases Go.Deep.open_slice1 ht ce h with ⟨h0, _⟩ | ⟨x, l, c, m, n, V, D, Pl, hcs, _, hl, _, hmm, _, hx⟩
 ·simp at h0
  obtain ⟨rfl, rfl, rfl⟩ := h0
  exact ⟨H, ρ, .slice nilSl, [], hs, More.refl _ _, by simp [Go.Sh.okSV, nilSl, capC], by simp [conc, nilSl, capC], ⟨[], Arr.nil _, rfl, fun i w cs hw => by simp at hw⟩, (fun r hr => by cases hr), ⟨_, rfl, .inr rfl⟩⟩
 ·simp at hcs
  obtain ⟨rfl, rfl, rfl⟩ := hcs
  simp only [if_true] at hmm
  have hmm' := hmm.symm
  subst hmm'
  have each : ∀ r, r < cap -> ∃ y : Option Addr × Nat × Nat × List (List UInt8), V r = .slice y.1 y.2.1 y.2.2.1 /\ IsRowS w y.1 y.2.1 y.2.2.1 y.2.2.2 := fun r hr => by
   rcases Go.Deep.open_slice1 he cq (hx r hr).2 with ⟨hc2, _⟩ | ⟨x', l', c', m', n', V', D', Pl', hc2, _, hl', _, hmm', _, hx'⟩
   ·simp at hc2
    exact ⟨(none, 0, 0, []), hc2, .inl ⟨rfl, rfl, rfl, rfl⟩⟩
   ·simp at hc2
    simp only [if_true] at hmm'
    have hmm2 := hmm'.symm
    subst hmm2
    have each' : ∀ i, i < c' -> ∃ s : ByteArray, V' i = .string s /\ s.size <= maxLen := fun i hi => by
     obtain ⟨s, h1, _, h3⟩ := DataW.trod_string hq (hx' i hi).2
     exact ⟨s, by simpa using h1, h3⟩
    obtain ⟨S, hS⟩ := Go.Deep.choose_lt each'
    refine ⟨(some x', l', c', (List.range c').map fun i => (S i).data.toList), hc2, .inr ⟨x', rfl, hl', by simp, fun i s hi => ?_⟩⟩
    have hic : i < c' := by have := (List.getElem?_eq_some_iff.1 hi).1; simpa using this
    simp [hic] at hi
    subst hi
    exact ⟨by rw [(hx' i hic).1, (hS i hic).1], by simpa using (hS i hic).2⟩
  obtain ⟨y, hy⟩ := Go.Deep.choose_lt each
  exact strGrid hs hl (A := fun r => (y r).1) (L := fun r => (y r).2.1) (C := fun r => (y r).2.2.1) (Z := fun r => (y r).2.2.2) (fun r hr => (hy r hr).2) (fun r hr => by rw [(hx r hr).1, (hy r hr).1])
end
end Go.Sh.Of
namespace Go.Sh.Of
open Go Go.Sh
def Few (T : List (List (List UInt8))) : Prop := T.length <= 100 /\ ∀ r ∈ T, r.length <= 100
theorem bey_in (C : CallC) (K : Nat) (H : Heap) (y33 y35 y36 y37 y38 : SV) {u : SV} {r : List (List UInt8)} (hu : Arr H u (strs r)) (hr : r.length <= 100) (y : Nat) (hy : y < 1000) (k25 : SV -> SV -> SV -> SV -> SV -> SV -> SV -> Heap -> Rs) : ∀ (m j fuel : Nat) (n : Int), j + m = r.length -> m < fuel ->
  (slow.loop10 (f5_l7 slow K C k25) fuel y33 (.int .i64 n) y35 y36 y37 y38 (i64 y) u (i64 r.length) (i64 j) H = some (.bool true, H)) \/ ∃ n' : Int, slow.loop10 (f5_l7 slow K C k25) fuel y33 (.int .i64 n) y35 y36 y37 y38 (i64 y) u (i64 r.length) (i64 j) H = k25 y33 (.int .i64 n') y35 y36 y37 y38 (i64 (y + 1)) H
 | 0, j, fuel, n, hjm, hf => by
  obtain ⟨fuel, rfl⟩ : ∃ m, fuel = m + 1 := ⟨fuel - 1, by omega⟩
  have hj : ¬ j < r.length := by omega
  refine .inr ⟨n, ?_⟩
  rw [z_loop10]
  simp only [f5_l7, n_lss, decide_eq_false hj, z_cond, cond_false]
  rw [show (SV.int .i64 1) = i64 1 from rfl, n_addi _ (by omega)]
 | m + 1, j, fuel, n, hjm, hf => by
  obtain ⟨fuel, rfl⟩ : ∃ m, fuel = m + 1 := ⟨fuel - 1, by omega⟩
  have hj : j < r.length := by omega
  obtain ⟨s, hs⟩ : ∃ s, r[j]? = some s := ⟨_, List.getElem?_eq_getElem hj⟩
  rw [z_loop10]
  simp only [f5_l7, n_lss, decide_eq_true hj, z_cond, cond_true, hu.load (strs_get hs), z_slen, z_add, z_gtr]
  cases hd : decide (IntKind.wrap .i64 (n + (s.length : Int)) > 16384) with
  | true =>
   left
   rfl
  | false =>
   simp only [cond_false]
   have e : IntKind.wrap .i64 ((j : Int) + 1) = ((j + 1 : Nat) : Int) := by
    have := wrap_i (j + 1) (by omega)
    rwa [show (((j + 1 : Nat) : Int)) = (j : Int) + 1 by omega] at this
   rw [e]
   exact bey_in C K H y33 y35 y36 y37 y38 hu hr y hy k25 m (j + 1) fuel _ (by omega) (by omega)
theorem bey_mid (C : CallC) (K : Nat) (hK : 1000 < K) (H : Heap) (y17 y19 : SV) {u : SV} {T : List (List (List UInt8))} (hu : IsTexts H u T) (hT : T.length <= 100) (y : Nat) (hy : y < 1000) (k7 : SV -> SV -> SV -> SV -> Heap -> Rs) : ∀ (m i fuel : Nat) (n : Int), i + m = T.length -> m < fuel -> (∀ (q : Nat) r, q < i -> T[q]? = some r -> r.length <= 100) ->
  (slow.loop7 (f5_l4 slow K C k7) fuel y17 (.int .i64 n) y19 (i64 y) u (i64 T.length) (i64 i) H = some (.bool true, H)) \/ ((∀ r ∈ T, r.length <= 100) /\ ∃ n' : Int, slow.loop7 (f5_l4 slow K C k7) fuel y17 (.int .i64 n) y19 (i64 y) u (i64 T.length) (i64 i) H = k7 y17 (.int .i64 n') y19 (i64 (y + 1)) H)
 | 0, i, fuel, n, him, hf, hdone => by
  obtain ⟨fuel, rfl⟩ : ∃ m, fuel = m + 1 := ⟨fuel - 1, by omega⟩
  have hi : ¬ i < T.length := by omega
  refine .inr ⟨fun r hr => ?_, n, ?_⟩
  ·obtain ⟨q, hq⟩ := List.getElem?_of_mem hr
   exact hdone q r (by have := (List.getElem?_eq_some_iff.1 hq).1; omega) hq
  ·rw [z_loop7]
   simp only [f5_l4, n_lss, decide_eq_false hi, z_cond, cond_false]
   rw [show (SV.int .i64 1) = i64 1 from rfl, n_addi _ (by omega)]
 | m + 1, i, fuel, n, him, hf, hdone => by
  obtain ⟨fuel, rfl⟩ : ∃ m, fuel = m + 1 := ⟨fuel - 1, by omega⟩
  have hi : i < T.length := by omega
  obtain ⟨r, hr⟩ : ∃ r, T[i]? = some r := ⟨_, List.getElem?_eq_getElem hi⟩
  obtain ⟨w, hw, ha⟩ := hu.load (i := i) (cs := strs r) (by simp [hr])
  have hwl : ∀ k, slow.len w k = k (i64 r.length) := fun k => by rw [ha.len]; simp
  rw [z_loop7]
  simp only [f5_l4, n_lss, decide_eq_true hi, z_cond, cond_true, hw, hwl]
  rw [show (SV.int .i64 100) = i64 100 from rfl, n_gtr]
  by_cases hbig : r.length > 100
  ·left
   rw [decide_eq_true hbig]
   rfl
  ·rw [decide_eq_false hbig]
   simp only [z_cond, cond_false]
   rw [show (SV.int .i64 0) = i64 0 from rfl]
   rcases bey_in C K H y17 y19 (i64 y) u (i64 T.length) ha (by omega) i (by omega) (slow.loop7 (f5_l4 slow K C k7) fuel) r.length 0 K n (by omega) (by omega) with h | ⟨n', h⟩
   ·left; exact h
   ·rw [h]
    exact bey_mid C K hK H y17 y19 hu hT y hy k7 m (i + 1) fuel n' (by omega) (by omega) (fun q r' hq hr' => by
     by_cases hqi : q = i
     ·subst hqi
      rw [hr] at hr'
      cases hr'
      omega
     ·exact hdone q r' (by omega) hr')
theorem bey_out (C : CallC) (K : Nat) (hK : 1000 < K) (H : Heap) {v : SV} {us : List SV} (hv : Arr H v us) (hul : us.length < 1000) {Ts : List (List (List (List UInt8)))} (hl : us.length = Ts.length) (hT : ∀ (i : Nat) u T, us[i]? = some u -> Ts[i]? = some T -> IsTexts H u T) : ∀ (m i fuel : Nat) (n : Int), i + m = us.length -> m < fuel -> (∀ (q : Nat) T, q < i -> Ts[q]? = some T -> Few T) ->
  (slow.loop4 (f5_l1 slow K C) fuel v (.int .i64 n) (i64 us.length) (i64 i) H = some (.bool true, H)) \/ ((∀ T ∈ Ts, Few T) /\ slow.loop4 (f5_l1 slow K C) fuel v (.int .i64 n) (i64 us.length) (i64 i) H = some (.bool false, H))
 | 0, i, fuel, n, him, hf, hdone => by
  obtain ⟨fuel, rfl⟩ : ∃ m, fuel = m + 1 := ⟨fuel - 1, by omega⟩
  have hi : ¬ i < us.length := by omega
  refine .inr ⟨fun T hT => ?_, ?_⟩
  ·obtain ⟨q, hq⟩ := List.getElem?_of_mem hT
   exact hdone q T (by have := (List.getElem?_eq_some_iff.1 hq).1; omega) hq
  ·rw [z_loop4]
   simp only [f5_l1, n_lss, decide_eq_false hi, z_cond, cond_false]
 | m + 1, i, fuel, n, him, hf, hdone => by
  obtain ⟨fuel, rfl⟩ : ∃ m, fuel = m + 1 := ⟨fuel - 1, by omega⟩
  have hi : i < us.length := by omega
  obtain ⟨u, hu⟩ : ∃ u, us[i]? = some u := ⟨_, List.getElem?_eq_getElem hi⟩
  obtain ⟨T, hTi⟩ : ∃ T, Ts[i]? = some T := ⟨_, List.getElem?_eq_getElem (by omega)⟩
  have ht := hT i u T hu hTi
  have hlen : ∀ k, slow.len u k = k (i64 T.length) := fun k => by rw [ht.len]; simp
  rw [z_loop4]
  simp only [f5_l1, n_lss, decide_eq_true hi, z_cond, cond_true, hv.load hu, hlen]
  rw [show (SV.int .i64 100) = i64 100 from rfl, n_gtr]
  by_cases hbig : T.length > 100
  ·left
   rw [decide_eq_true hbig]
   rfl
  ·rw [decide_eq_false hbig]
   simp only [z_cond, cond_false]
   rw [show (SV.int .i64 0) = i64 0 from rfl]
   rcases bey_mid C K hK H v (i64 us.length) ht (by omega) i (by omega) (slow.loop4 (f5_l1 slow K C) fuel) T.length 0 K n (by omega) (by omega) (fun q r hq => by omega) with h | ⟨hc, n', h⟩
   ·left; exact h
   ·rw [h]
    exact bey_out C K hK H hv hul hl hT m (i + 1) fuel n' (by omega) (by omega) (fun q T' hq hT' => by
     by_cases hqi : q = i
     ·subst hqi
      rw [hTi] at hT'
      cases hT'
      exact ⟨by omega, hc⟩
     ·exact hdone q T' (by omega) hT')
theorem beyond_ok (K : Nat) (hK : 1000 < K) (d : Nat) (H : Heap) {v : SV} {us : List SV} (hv : Arr H v us) (hul : us.length < 1000) {Ts : List (List (List (List UInt8)))} (hl : us.length = Ts.length) (hT : ∀ (i : Nat) u T, us[i]? = some u -> Ts[i]? = some T -> IsTexts H u T) :
  runQ wk tab slow K (d + 1) 5 [v] H = some (.bool true, H) \/ ((∀ T ∈ Ts, Few T) /\ runQ wk tab slow K (d + 1) 5 [v] H = some (.bool false, H)) := by
 have e : runQ wk tab slow K (d + 1) 5 [v] H = slow.loop4 (f5_l1 slow K (runQ wk tab slow K d)) K v (.int .i64 0) (i64 us.length) (i64 0) H := by
  show f5 slow K (runQ wk tab slow K d) v H = _
  simp only [f5, hv.len]
  rfl
 rw [e]
 exact bey_out _ K hK H hv hul hl hT us.length 0 K 0 (by omega) (by omega) (fun q T hq => by omega)
end Go.Sh.Of
namespace Go.Sh.Of
open Go Go.Sh
theorem IsMatF.agg {lo : Nat} {H : Heap} {v : SV} {A : List (List Int)} (h : IsMatF lo H v A) : ∃ w, v = .agg [w] := by
 obtain ⟨w, e, _⟩ := h
 exact ⟨w, e⟩
end Go.Sh.Of
