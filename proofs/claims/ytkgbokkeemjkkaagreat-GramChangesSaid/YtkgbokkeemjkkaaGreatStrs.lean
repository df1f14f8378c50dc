/- Rows of texts as arguments: laid down for the machine. law05: beyond: no more than 100 rows and columns, if it says so. law05: shaped; three rows of texts laid side by side. -/
import Derived.Test.YtkgbokkeemjkkaaGreatMat
import Derived.Deep.Matrix
import Derived.SliceStrings
import Derived.Deep.Slices
set_option linter.unusedVariables false
set_option linter.unusedSimpArgs false
namespace Go.Sh.Of
open Go Go.Sh
variable {len cap : Nat}
variable {H : Heap}
def IsRowS (w : World) (a : Option Addr) (len cap : Nat) (zs : List (List UInt8)) : Prop :=
 (a = none /\ len = 0 /\ cap = 0 /\ zs = []) \/
 ∃ x, a = some x /\ len <= cap /\ zs.length = cap /\ (∀ (i : Nat) s, zs[i]? = some s -> w.cell? (x.add i) = some (.string ⟨s.toArray⟩) /\ s.length <= maxLen)
theorem IsRowS.short {w : World} {a : Option Addr} {zs : List (List UInt8)} (h : IsRowS w a len cap zs) : ∀ s ∈ zs, s.length <= maxLen := by
 rcases h with ⟨_, _, _, rfl⟩ | ⟨x, _, _, _, hc⟩
 ·intro s hs; cases hs
 ·intro s hs
  obtain ⟨i, hi⟩ := List.getElem?_of_mem hs
  exact (hc i s hi).2
def ShortT (T : List (List (List UInt8))) : Prop := ∀ r ∈ T, ∀ s ∈ r, s.length <= maxLen
theorem strsA {W : World} {ρ : Place} (h : Start W H ρ) {a : Option Addr} {zs : List (List UInt8)} (hr : IsRowS W a len cap zs) :
  ∃ H' ρ' sv, Start W H' ρ' /\ More H ρ H' ρ' /\ Go.Sh.okSV ρ' H'.size sv /\ conc ρ' sv = .slice a len cap /\ Arr H' sv (strs (zs.take len)) /\ sv.flat = true := by
 rcases hr with ⟨rfl, rfl, rfl, rfl⟩ | ⟨x, rfl, hl, hz, hcell⟩
 ·exact ⟨H, ρ, .slice nilSl, h, More.refl _ _, by simp [Go.Sh.okSV, nilSl, capC], by simp [conc, nilSl, capC], by simpa using Arr.nil H, rfl⟩
 ·obtain ⟨H', ρ', sv, h1, h2, h3, h4, h5, h6⟩ := h.push_any hl (x := x) (cs := strs zs) (by simpa using hz) (fun v hv => by
   obtain ⟨n, _, rfl⟩ := List.mem_map.1 hv
   exact ⟨by simp [Go.Sh.okSV], rfl⟩) (fun i v hi => by
   rw [List.getElem?_map, Option.map_eq_some_iff] at hi
   obtain ⟨n, hn, rfl⟩ := hi
   rw [(hcell i n hn).1]
   simp [conc])
  exact ⟨H', ρ', sv, h1, h2, h3, h4, by simpa [strs, List.map_take] using h5, h6.1⟩
theorem strRows {W : World} {A : Nat -> Option Addr} {L C : Nat -> Nat} {Z : Nat -> List (List UInt8)} : ∀ (cap : Nat) {H : Heap} {ρ : Place} (h : Start W H ρ) (hr : ∀ r, r < cap -> IsRowS W (A r) (L r) (C r) (Z r)),
  ∃ (H' : Heap) (ρ' : Place) (svs : List SV), Start W H' ρ' /\ More H ρ H' ρ' /\ svs.length = cap /\ ∀ (r : Nat) sv, svs[r]? = some sv -> Go.Sh.okSV ρ' H'.size sv /\ conc ρ' sv = .slice (A r) (L r) (C r) /\ Arr H' sv (strs ((Z r).take (L r))) /\ sv.flat = true
 | 0, H, ρ, h, hr => ⟨H, ρ, [], h, More.refl _ _, rfl, fun r sv hs => by simp at hs⟩
 | cap + 1, H, ρ, h, hr => by
  obtain ⟨H1, ρ1, svs, s1, m1, l1, g1⟩ := strRows cap h (fun r hl => hr r (by omega))
  obtain ⟨H2, ρ2, sv, s2, m2, o2, c2, a2, f2⟩ := strsA s1 (hr cap (by omega))
  refine ⟨H2, ρ2, svs ++ [sv], s2, m1.trans m2, by simp [l1], fun r sv' hs => ?_⟩
  by_cases hq : r < svs.length
  ·rw [List.getElem?_append_left hq] at hs
   obtain ⟨o, c, a, f⟩ := g1 r sv' hs
   obtain ⟨o', c'⟩ := m2.okSV o
   exact ⟨o', c'.trans c, a.fr m2.fr, f⟩
  ·have hq2 : r = svs.length := by have := (List.getElem?_eq_some_iff.1 hs).1; simp at this; omega
   subst hq2
   simp at hs
   subst hs
   rw [l1]
   exact ⟨o2, c2, a2, f2⟩
theorem strGrid {W : World} {ρ : Place} (h : Start W H ρ) {x : Addr} {A : Nat -> Option Addr} {L C : Nat -> Nat} {Z : Nat -> List (List UInt8)} (hlen : len <= cap) (hr : ∀ r, r < cap -> IsRowS W (A r) (L r) (C r) (Z r)) (hcell : ∀ r, r < cap -> W.cell? (x.add r) = some (.slice (A r) (L r) (C r))) :
  ∃ (H' : Heap) (ρ' : Place) (sv : SV) (T : List (List (List UInt8))), Start W H' ρ' /\ More H ρ H' ρ' /\ Go.Sh.okSV ρ' H'.size sv /\ conc ρ' sv = .slice (some x) len cap /\ IsTexts H' sv T /\ ShortT T /\ Cutable sv := by
 obtain ⟨H1, ρ1, svs, s1, m1, l1, g1⟩ := strRows cap h hr
 obtain ⟨H2, ρ2, sv, s2, m2, o2, c2, a2, _, cu⟩ := s1.push_any hlen (x := x) l1 (fun v hv => by
  obtain ⟨r, hr⟩ := List.getElem?_of_mem hv
  exact ⟨(g1 r v hr).1, (g1 r v hr).2.2.2⟩) (fun i v hi => by
  rw [(g1 i v hi).2.1]
  exact hcell i (by have := (List.getElem?_eq_some_iff.1 hi).1; omega))
 refine ⟨H2, ρ2, sv, (List.range len).map fun r => (Z r).take (L r), s2, m1.trans m2, o2, c2, ⟨svs.take len, a2, by simp; omega, fun r w cs hw hc => ?_⟩, fun r hr' s hs => ?_, cu⟩
 ·rw [List.getElem?_take] at hw
  split at hw
  ·rename_i hlt
   simp [hlt] at hc
   subst hc
   have := ((g1 r w hw).2.2.1).fr m2.fr
   simpa [strs, List.map_take] using this
  ·cases hw
 ·obtain ⟨i, hi, rfl⟩ := List.mem_map.1 hr'
  exact (hr i (by have := List.mem_range.1 hi; omega)).short s (List.mem_of_mem_take hs)
section
variable {HH : Type} {enc : TypeId × Value -> HH} {P : Program} {w : World} {held : Bool}
theorem lay_texts {t e q : TypeId} {fuel : Nat} {a : Option Addr} {x : DataW HH × List MemPlace} (ht : P.underlying t = some (.slice e)) (he : P.underlying e = some (.slice q)) (hq : P.underlying q = some .string)
  (ce : P.cellsOf e = 1) (cq : P.cellsOf q = 1) (h : DataW.trod enc P w 0 (fun _ => true) held fuel t [.slice a len cap] = some x) {ρ : Place} (hs : Start w H ρ) :
  ∃ (H' : Heap) (ρ' : Place) (sv : SV) (T : List (List (List UInt8))), Start w H' ρ' /\ More H ρ H' ρ' /\ Go.Sh.okSV ρ' H'.size sv /\ conc ρ' sv = .slice a len cap /\ IsTexts H' sv T /\ ShortT T /\ Cutable sv := by
 rcases Go.Deep.open_slice1 ht ce h with ⟨h0, _⟩ | ⟨x, l, c, m, n, V, D, Pl, hcs, _, hl, _, hmm, _, hx⟩
 ·simp at h0
  obtain ⟨rfl, rfl, rfl⟩ := h0
  exact ⟨H, ρ, .slice nilSl, [], hs, More.refl _ _, by simp [Go.Sh.okSV, nilSl, capC], by simp [conc, nilSl, capC], ⟨[], Arr.nil _, rfl, fun i w cs hw => by simp at hw⟩, (fun r hr => by cases hr), ⟨_, rfl, .inr rfl⟩⟩
 ·simp at hcs
  obtain ⟨rfl, rfl, rfl⟩ := hcs
  simp only [if_true] at hmm
  have hmm' := hmm.symm
  subst hmm'
  have each : ∀ r, r < cap -> ∃ y : Option Addr × Nat × Nat × List (List UInt8), V r = .slice y.1 y.2.1 y.2.2.1 /\ IsRowS w y.1 y.2.1 y.2.2.1 y.2.2.2 := fun r hr => by
   rcases Go.Deep.open_slice1 he cq (hx r hr).2 with ⟨hc2, _⟩ | ⟨x', l', c', m', n', V', D', Pl', hc2, _, hl', _, hmm', _, hx'⟩
   ·simp at hc2
    exact ⟨(none, 0, 0, []), hc2, .inl ⟨rfl, rfl, rfl, rfl⟩⟩
   ·simp at hc2
    simp only [if_true] at hmm'
    have hmm2 := hmm'.symm
    subst hmm2
    have each' : ∀ i, i < c' -> ∃ s : ByteArray, V' i = .string s /\ s.size <= maxLen := fun i hi => by
     obtain ⟨s, h1, _, h3⟩ := DataW.trod_string hq (hx' i hi).2
     exact ⟨s, by simpa using h1, h3⟩
    obtain ⟨S, hS⟩ := Go.Deep.choose_lt each'
    refine ⟨(some x', l', c', (List.range c').map fun i => (S i).data.toList), hc2, .inr ⟨x', rfl, hl', by simp, fun i s hi => ?_⟩⟩
    have hic : i < c' := by have := (List.getElem?_eq_some_iff.1 hi).1; simpa using this
    simp [hic] at hi
    subst hi
    exact ⟨by rw [(hx' i hic).1, (hS i hic).1], by simpa using (hS i hic).2⟩
  obtain ⟨y, hy⟩ := Go.Deep.choose_lt each
  exact strGrid hs hl (A := fun r => (y r).1) (L := fun r => (y r).2.1) (C := fun r => (y r).2.2.1) (Z := fun r => (y r).2.2.2) (fun r hr => (hy r hr).2) (fun r hr => by rw [(hx r hr).1, (hy r hr).1])
end
end Go.Sh.Of
namespace Go.Sh.Of
open Go Go.Sh
variable {len cap : Nat}
variable {H : Heap}
end Go.Sh.Of
namespace Go.Sh.Of
open Go Go.Sh
variable {len cap : Nat}
variable {H : Heap}
theorem IsMatF.agg {lo : Nat} {v : SV} {A : List (List Int)} (h : IsMatF lo H v A) : ∃ w, v = .agg [w] := by
 obtain ⟨w, e, _⟩ := h
 exact ⟨w, e⟩
end Go.Sh.Of
