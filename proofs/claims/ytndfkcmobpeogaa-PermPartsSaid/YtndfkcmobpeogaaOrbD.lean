/- Points in orbits: the program's forest, walked. -/
import Derived.Test.YtndfkcmobpeogaaPermS
import Derived.Test.YtndfkcmobpeogaaOrbC
set_option linter.unusedVariables false
set_option linter.unusedSimpArgs false
namespace Go.Sh.Of
open Go

abbrev natsL (U : List Nat) : List SV := U.map i64
theorem natsL_get {U : List Nat} {i x : Nat} (h : U[i]? = some x) : (natsL U)[i]? = some (i64 x) := by simp [h]
theorem natsL_set (U : List Nat) (i x : Nat) : (natsL U).set i (i64 x) = natsL (U.set i x) := by simp [natsL, List.map_set]
theorem natsL_len (U : List Nat) : (natsL U).length = U.length := by simp
theorem natsL_inj : ∀ {U V : List Nat}, natsL U = natsL V → U = V
  | [], [], _ => rfl
  | [], _ :: _, h => by simp at h
  | _ :: _, [], h => by simp at h
  | a :: U, b :: V, h => by
    simp only [natsL, List.map_cons, List.cons.injEq, SV.int.injEq, true_and] at h
    have h2 : natsL U = natsL V := h.2
    rw [natsL_inj h2, show a = b by omega]
theorem Own.ofr {lo : Nat} {H H' : Heap} {v : SV} {cs : List SV} (h : Own lo H v cs) (hr : ∀ r, inRow v r → H'.get r = H.get r) : Own lo H' v cs := by
  obtain ⟨base, rfl, h⟩ := h
  refine ⟨base, rfl, ?_⟩
  rcases h with h | ⟨r, ver, rfl, h2, h3⟩
  · exact .inl h
  · exact .inr ⟨r, ver, rfl, h2, by rw [hr r ⟨_, 0, rfl, rfl⟩]; exact h3⟩
theorem own_lt {lo : Nat} {H : Heap} {v : SV} {cs : List SV} (h : Own lo H v cs) {r : Nat} (hr : inRow v r) : lo ≤ r ∧ r < H.size ∧ ∃ ver, H.get r = some ⟨2, 1, ver, cs⟩ := by
  obtain ⟨base, rfl, h⟩ := h
  obtain ⟨s, o, e, h4⟩ := hr
  cases e
  rcases h with ⟨rfl, _⟩ | ⟨r', ver, rfl, h2, h3⟩
  · cases h4
  · cases h4; exact ⟨h2, Heap.get_lt h3, ver, h3⟩
theorem own_apart {lo lo' : Nat} {H : Heap} {a b : SV} {cs ds : List SV} (ha : Own lo H a cs) (hb : Own lo' H b ds) (hne : cs ≠ ds) {r : Nat} (h1 : inRow a r) : ¬ inRow b r := fun h2 => by
  obtain ⟨_, _, v1, e1⟩ := own_lt ha h1
  obtain ⟨_, _, v2, e2⟩ := own_lt hb h2
  rw [e1] at e2
  cases e2
  exact hne rfl
theorem nil_row (r : Nat) : ¬ inRow (.slice nilSl) r := fun ⟨s, o, e, h⟩ => by cases e; cases h
theorem Holds.ofr {H H' : Heap} {p x : SV} (h : Holds H p x) (hr : ∀ r, p = .ptr (r, 0) → H'.get r = H.get r) : Holds H' p x := by
  obtain ⟨r, row, h1, h2, h3, h4⟩ := h
  exact ⟨r, row, h1, by rw [hr r h1]; exact h2, h3, h4⟩
/-- Only the row of v changes. -/
def Only (v : SV) (H H' : Heap) : Prop := H'.size = H.size ∧ ∀ r, ¬ inRow v r → H'.get r = H.get r
theorem Only.refl (v : SV) (H : Heap) : Only v H H := ⟨rfl, fun _ _ => rfl⟩
theorem Only.trans {v : SV} {H H' H'' : Heap} (h : Only v H H') (h' : Only v H' H'') : Only v H H'' := ⟨h'.1.trans h.1, fun r hr => (h'.2 r hr).trans (h.2 r hr)⟩
theorem z_maxi (a b : Nat) (k : K1) : slow.max [i64 a, i64 b] k = k (i64 (max a b)) := by
  rw [z_max2]
  by_cases h : (b : Int) > a
  · rw [if_pos h, Nat.max_eq_right (by omega)]
  · rw [if_neg h, Nat.max_eq_left (by omega)]
theorem z_mini (a b : Nat) (k : K1) : slow.min [i64 a, i64 b] k = k (i64 (min a b)) := by
  rw [z_min2]
  by_cases h : (b : Int) < a
  · rw [if_pos h, Nat.min_eq_right (by omega)]
  · rw [if_neg h, Nat.min_eq_left (by omega)]
/-- The root, half the way. -/
theorem top_loop (C : CallC) (K : Nat) {E : Nat → Nat → Prop} {n lo : Nat} {p v : SV} (hpv : ∀ r, inRow v r → p ≠ .ptr (r, 0)) : ∀ (i fuel : Nat) (H : Heap) (U : List Nat), i < fuel → i < n → Own lo H v (natsL U) → Holds H p v → UInv E n U →
    ∃ H' U', slow.loop2 (f11_l1 slow K C) fuel (i64 i) p H = some (i64 (root U i), H') ∧ Own lo H' v (natsL U') ∧ Holds H' p v ∧ UInv E n U' ∧ (∀ j, root U' j = root U j) ∧ Only v H H' := by
  intro i
  induction i using Nat.strongRecOn with
  | ind i ih =>
    intro fuel H U hf hi ho hp hU
    obtain ⟨fuel, rfl⟩ : ∃ m, fuel = m + 1 := ⟨fuel - 1, by omega⟩
    obtain ⟨x, hx⟩ : ∃ x, U[i]? = some x := ⟨_, List.getElem?_eq_getElem (by rw [hU.len]; exact hi)⟩
    have hxi := hU.down i x hx
    have hd : U.getD i i = x := getD_of hx
    rw [z_loop2]
    simp only [f11_l1, hp.load, ho.arr.load (natsL_get hx), n_neq, z_cond]
    by_cases hlt : x < i
    · have hne : x ≠ i := by omega
      obtain ⟨w, hw⟩ : ∃ w, U[x]? = some w := ⟨_, List.getElem?_eq_getElem (by rw [hU.len]; omega)⟩
      have hwx := hU.down x w hw
      have hd2 : U.getD x x = w := getD_of hw
      obtain ⟨hU1, hr1⟩ := hU.half hi
      rw [hd, hd2] at hU1 hr1
      obtain ⟨H1, st, ho1, f1, sz1, hro⟩ := ho.store (i := i) (by simp [hU.len]; exact hi) (x := i64 w) rfl .i64
      rw [natsL_set] at ho1
      have hp1 : Holds H1 p v := Holds.ofr hp fun r e => hro r fun h => hpv r h e
      have hw1 : (U.set i w)[i]? = some w := List.getElem?_set_self (by rw [hU.len]; exact hi)
      obtain ⟨H2, U2, h2, ho2, hp2, hU2, hr2, on2⟩ := ih w (by omega) fuel H1 (U.set i w) (by omega) (by omega) ho1 hp1 hU1
      refine ⟨H2, U2, ?_, ho2, hp2, hU2, fun j => by rw [hr2, hr1], Only.trans ⟨sz1, hro⟩ on2⟩
      rw [decide_eq_true hne]
      simp only [cond_true, ho.arr.load (natsL_get hw), st, hp1.load, ho1.arr.load (natsL_get hw1)]
      rw [h2, hr1]
      have e1 : root U i = root U x := by rw [root_step (by rw [hd]; exact hlt), hd]
      have e2 : root U x = root U w := by
        by_cases hwlt : w < x
        · rw [root_step (by rw [hd2]; exact hwlt), hd2]
        · rw [show w = x by omega]
      rw [e1, e2]
    · have hxe : x = i := by omega
      have hne : ¬ x ≠ i := fun h => h hxe
      rw [decide_eq_false hne]
      simp only [cond_false, z_rest_int]
      refine ⟨H, U, ?_, ho, hp, hU, fun _ => rfl, Only.refl _ _⟩
      rw [root_self (by rw [hd]; omega)]
theorem top_ok (K : Nat) (hK : 1000 < K) (d : Nat) {E : Nat → Nat → Prop} {n lo : Nat} {p v : SV} (hpv : ∀ r, inRow v r → p ≠ .ptr (r, 0)) (hn : n ≤ 64) {i : Nat} (hi : i < n) (H : Heap) {U : List Nat} (ho : Own lo H v (natsL U)) (hp : Holds H p v) (hU : UInv E n U) :
    ∃ H' U', (∀ k, slow.callv (runQ wk tab slow K (d + 1)) [.fn 11 [] [p], i64 i] H k = k (i64 (root U i)) H') ∧ Own lo H' v (natsL U') ∧ Holds H' p v ∧ UInv E n U' ∧ (∀ j, root U' j = root U j) ∧ Only v H H' := by
  obtain ⟨H', U', h1, rest⟩ := top_loop (runQ wk tab slow K d) K hpv i K H U (by omega) hi ho hp hU
  refine ⟨H', U', fun k => ?_, rest⟩
  have h2 : runQ wk tab slow K (d + 1) 11 [i64 i, p] H = some (i64 (root U i), H') := h1
  rw [z_callv]
  show slow.call (runQ wk tab slow K (d + 1) 11 [i64 i, p] H) k = _
  rw [h2, z_call]
theorem Only.frame {v : SV} {H0 H H' : Heap} (h : Only v H H') (hf : Frame H0 H) (hv : ∀ r, inRow v r → H0.size ≤ r) : Frame H0 H' := ⟨by rw [h.1]; exact hf.size, fun r hr => by rw [h.2 r (fun hx => by have := hv r hx; omega)]; exact hf.rows r hr⟩
/-- Pairs of a list that maps points. -/
def Epair (gens : List (List Int)) (i k : Nat) : Prop := ∃ p ∈ gens, p[i]? = some (k : Int)
theorem pair_loop (K : Nat) (hK : 1000 < K) (d : Nat) {H0 : Heap} {gens : List (List Int)} {n : Nat} (hn : n ≤ 64) {p v w : SV} (hpv : ∀ r, inRow v r → p ≠ .ptr (r, 0)) (hvr : ∀ r, inRow v r → H0.size ≤ r) {l : List Int} (hw : Arr H0 w (intsL .i64 l)) (hl : l ∈ gens) (hln : l.length = n) (hlm : ∀ x ∈ l, 0 ≤ x ∧ x < n) (y67 y70 y71 : SV) (g : Nat) (hg : g < 1000) (k62 : SV → SV → SV → SV → SV → SV → Heap → Rs) : ∀ (m i fuel : Nat) (H : Heap) (U : List Nat), i + m = n → m < fuel → Frame H0 H → Own H0.size H v (natsL U) → Holds H p v → UInv (Epair gens) n U →
    ∃ H' U', slow.loop9 (f5_l17 slow K (runQ wk tab slow K (d + 1)) k62) fuel y67 p (.fn 11 [] [p]) y70 y71 (i64 g) w (i64 n) (i64 i) H = k62 y67 p (.fn 11 [] [p]) y70 y71 (i64 (g + 1)) H' ∧ Frame H0 H' ∧ Own H0.size H' v (natsL U') ∧ Holds H' p v ∧ UInv (Epair gens) n U' ∧ (∀ a b, root U a = root U b → root U' a = root U' b) ∧ (∀ (j k : Nat), i ≤ j → l[j]? = some (k : Int) → root U' j = root U' k) ∧ H'.size = H.size
  | 0, i, fuel, H, U, him, hf, hfr, ho, hp, hU => by
    obtain ⟨fuel, rfl⟩ : ∃ m, fuel = m + 1 := ⟨fuel - 1, by omega⟩
    have hi : ¬ i < n := by omega
    refine ⟨H, U, ?_, hfr, ho, hp, hU, fun _ _ h => h, fun j k hj hk => ?_, rfl⟩
    · rw [z_loop9]
      simp only [f5_l17, n_lss, decide_eq_false hi, z_cond, cond_false]
      rw [show (SV.int .i64 1) = i64 1 from rfl, n_addi _ (by omega)]
    · have := (List.getElem?_eq_some_iff.1 hk).1; omega
  | m + 1, i, fuel, H, U, him, hf, hfr, ho, hp, hU => by
    obtain ⟨fuel, rfl⟩ : ∃ m, fuel = m + 1 := ⟨fuel - 1, by omega⟩
    have hi : i < n := by omega
    obtain ⟨z, hz⟩ : ∃ z, l[i]? = some z := ⟨_, List.getElem?_eq_getElem (by omega)⟩
    obtain ⟨z0, z1⟩ := hlm z (List.mem_of_getElem? hz)
    obtain ⟨x, rfl⟩ : ∃ x : Nat, z = x := ⟨z.toNat, by omega⟩
    have hxn : x < n := by omega
    obtain ⟨H1, U1, c1, ho1, hp1, hU1, hr1, on1⟩ := top_ok K hK d hpv hn hi H ho hp hU
    obtain ⟨H2, U2, c2, ho2, hp2, hU2, hr2, on2⟩ := top_ok K hK d hpv hn hxn H1 ho1 hp1 hU1
    have hri := root_le U i
    have hrx := root_le U x
    have e12 : ∀ j, root U2 j = root U j := fun j => by rw [hr2, hr1]
    obtain ⟨hU3, hr3⟩ := hU2.join (i := i) (k := x) ⟨l, hl, hz⟩ hi hxn
    have hj := root_join_eq hr3
    rw [e12, e12] at hU3 hr3 hj
    obtain ⟨H3, st, ho3, f3, sz3, hro⟩ := ho2.store (i := max (root U i) (root U x)) (by simp [hU2.len]; omega) (x := i64 (min (root U i) (root U x))) rfl .i64
    rw [natsL_set] at ho3
    have hp3 : Holds H3 p v := Holds.ofr hp2 fun r e => hro r fun h => hpv r h e
    have on3 : Only v H2 H3 := ⟨sz3, hro⟩
    have onA := Only.trans (Only.trans on1 on2) on3
    have hfr3 := onA.frame hfr hvr
    obtain ⟨H4, U4, h4, f4, ho4, hp4, hU4, hc4, hd4, sz4⟩ := pair_loop K hK d hn hpv hvr hw hl hln hlm y67 y70 y71 g hg k62 m (i + 1) fuel H3 _ (by omega) (by omega) hfr3 ho3 hp3 hU3
    refine ⟨H4, U4, ?_, f4, ho4, hp4, hU4, fun a b hab => hc4 a b (hj.2 a b (by rw [e12, e12]; exact hab)), fun j k hij hk => ?_, by rw [sz4, onA.1]⟩
    · rw [z_loop9]
      simp only [f5_l17, n_lss, decide_eq_true hi, z_cond, cond_true, (hw.fr hfr).load (ints_get hz), c1, c2, hp2.load]
      rw [hr1, z_maxi, z_mini, st, show (SV.int .i64 1) = i64 1 from rfl, n_addi _ (by omega)]
      exact h4
    · by_cases hji : j = i
      · subst hji
        rw [hz] at hk
        have hxk : x = k := by have := Option.some.inj hk; omega
        subst hxk
        exact hc4 j x hj.1
      · exact hd4 j k (by omega) hk
theorem gens_loop (K : Nat) (hK : 1000 < K) (d : Nat) {H0 : Heap} {gens : List (List Int)} {n : Nat} (hn : n ≤ 64) (hgl : gens.length ≤ 16) {p v vg : SV} (hpv : ∀ r, inRow v r → p ≠ .ptr (r, 0)) (hvr : ∀ r, inRow v r → H0.size ≤ r) {ws : List SV} (hvg : Arr H0 vg ws) (hwl : ws.length = gens.length) (hws : ∀ (g : Nat) w l, ws[g]? = some w → gens[g]? = some l → Arr H0 w (intsL .i64 l)) (hln : ∀ l ∈ gens, l.length = n) (hlm : ∀ l ∈ gens, ∀ x ∈ l, 0 ≤ x ∧ x < n) : ∀ (m g fuel : Nat) (H : Heap) (U : List Nat), g + m = gens.length → m < fuel → Frame H0 H → Own H0.size H v (natsL U) → Holds H p v → UInv (Epair gens) n U → (∀ (q : Nat) l, q < g → gens[q]? = some l → ∀ j k : Nat, l[j]? = some (k : Int) → root U j = root U k) →
    ∃ H' U', slow.loop6 (f5_l15 slow K (runQ wk tab slow K (d + 1))) fuel (i64 n) p (.fn 11 [] [p]) vg (i64 gens.length) (i64 g) H = (slow.make 1 8 [.int .i64 0] (i64 n) (i64 n) H' fun x93 H94 => slow.loop5 (f5_l23 slow K (runQ wk tab slow K (d + 1))) K (.fn 11 [] [p]) (.slice nilSl) x93 (i64 n) (i64 0) H94) ∧ Frame H0 H' ∧ Own H0.size H' v (natsL U') ∧ Holds H' p v ∧ UInv (Epair gens) n U' ∧ (∀ i k, Epair gens i k → root U' i = root U' k) ∧ H'.size = H.size
  | 0, g, fuel, H, U, hgm, hf, hfr, ho, hp, hU, hdone => by
    obtain ⟨fuel, rfl⟩ : ∃ m, fuel = m + 1 := ⟨fuel - 1, by omega⟩
    have hg : ¬ g < gens.length := by omega
    refine ⟨H, U, ?_, hfr, ho, hp, hU, fun i k ⟨l, hl, hk⟩ => ?_, rfl⟩
    · rw [z_loop6]
      simp only [f5_l15, n_lss, decide_eq_false hg, z_cond, cond_false]
      rfl
    · obtain ⟨q, hq⟩ := List.getElem?_of_mem hl
      exact hdone q l (by have := (List.getElem?_eq_some_iff.1 hq).1; omega) hq i k hk
  | m + 1, g, fuel, H, U, hgm, hf, hfr, ho, hp, hU, hdone => by
    obtain ⟨fuel, rfl⟩ : ∃ m, fuel = m + 1 := ⟨fuel - 1, by omega⟩
    have hg : g < gens.length := by omega
    obtain ⟨l, hl⟩ : ∃ l, gens[g]? = some l := ⟨_, List.getElem?_eq_getElem hg⟩
    obtain ⟨w, hw⟩ : ∃ w, ws[g]? = some w := ⟨_, List.getElem?_eq_getElem (by omega)⟩
    have hm := List.mem_of_getElem? hl
    have ha := hws g w l hw hl
    have hlen : ∀ k, slow.len w k = k (i64 n) := fun k => by rw [alen ha, hln l hm]
    obtain ⟨H1, U1, h1, f1, ho1, hp1, hU1, hc1, hd1, sz1⟩ := pair_loop K hK d hn hpv hvr ha hm (hln l hm) (hlm l hm) (i64 n) vg (i64 gens.length) g (by omega) (slow.loop6 (f5_l15 slow K (runQ wk tab slow K (d + 1))) fuel) n 0 K H U (by omega) (by omega) hfr ho hp hU
    obtain ⟨H2, U2, h2, f2, ho2, hp2, hU2, hd2, sz2⟩ := gens_loop K hK d hn hgl hpv hvr hvg hwl hws hln hlm m (g + 1) fuel H1 U1 (by omega) (by omega) f1 ho1 hp1 hU1 (fun q l' hq hl' j k hk => by
      by_cases hqg : q = g
      · subst hqg
        rw [hl] at hl'
        cases hl'
        exact hd1 j k (Nat.zero_le j) hk
      · exact hc1 j k (hdone q l' (by omega) hl' j k hk))
    refine ⟨H2, U2, ?_, f2, ho2, hp2, hU2, hd2, by rw [sz2, sz1]⟩
    rw [z_loop6]
    simp only [f5_l15, n_lss, decide_eq_true hg, z_cond, cond_true, (hvg.fr hfr).load hw, hlen]
    rw [show (SV.int .i64 0) = i64 0 from rfl, h1]
    exact h2
end Go.Sh.Of
