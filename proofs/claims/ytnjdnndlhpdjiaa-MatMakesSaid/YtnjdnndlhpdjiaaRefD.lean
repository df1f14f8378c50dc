/- Contracts of the reference's layer 5: Fits, From, Tell. -/
import Derived.Test.YtnjdnndlhpdjiaaRefC
import Derived.Test.YtnjdnndlhpdjiaaMatC
set_option linter.unusedVariables false
set_option linter.unusedSimpArgs false
namespace Go.Sh.Of
open Go

/-- A list stays where only rows change in which its first cell does not lie. -/
theorem Arr.keepG {H H' : Heap} {v : SV} {cs : List SV} (h : Arr H v cs) {X : Nat → Prop} (hX : ∀ c0 ∈ cs, ∀ r row, X r → H.get r = some row → ∀ c ∈ row.cells, c ≠ c0) (hro : ∀ r, ¬ X r → r < H.size → H'.get r = H.get r) : Arr H' v cs := by
  obtain ⟨s, rfl, h2, h3⟩ := h
  refine ⟨s, rfl, h2, ?_⟩
  rcases h3 with h3 | ⟨r, o, row, b1, b2, b3, b4⟩
  · exact .inl h3
  · cases cs with
    | nil => left; rfl
    | cons c cs =>
      right
      have h0 := b4 0 c rfl
      have hne : ¬ X r := fun hx => hX c (by simp) r row hx b2 _ (List.mem_of_getElem? h0) rfl
      exact ⟨r, o, row, b1, by rw [hro r hne (Heap.get_lt b2)]; exact b2, b3, b4⟩
theorem IsRZ.keep {H H' : Heap} {v : SV} {z : Int} (h : IsRZ H v z) {X : Nat → Prop} (hX : ∀ r row, X r → H.get r = some row → ∀ c ∈ row.cells, ∀ n, c ≠ .int .u32 n) (hro : ∀ r, ¬ X r → r < H.size → H'.get r = H.get r) : IsRZ H' v z := by
  obtain ⟨s, rfl, ha⟩ := h
  refine ⟨s, rfl, Arr.keepG ha (fun c0 hc0 r row hx hg c hc => ?_) hro⟩
  obtain ⟨d, _, rfl⟩ := List.mem_map.1 hc0
  exact hX r row hx hg c hc _
theorem IsInt.keepU {H H' : Heap} {v : SV} {z : Int} (h : IsInt H v z) {X : Nat → Prop} (hX : ∀ r row, X r → H.get r = some row → ∀ c ∈ row.cells, ∀ n, c ≠ .int .u32 n) (hro : ∀ r, ¬ X r → r < H.size → H'.get r = H.get r) : IsInt H' v z := by
  obtain ⟨sl, rfl, ha, hf⟩ := h
  refine ⟨sl, rfl, Arr.keepG ha (fun c0 hc0 r row hx hg c hc => ?_) hro, hf⟩
  obtain ⟨d, _, rfl⟩ := List.mem_map.1 hc0
  exact hX r row hx hg c hc _
/-- A list of the reference's numbers. -/
def IsRZs (H : Heap) (v : SV) (zs : List Int) : Prop := ∃ els, ArrS 2 H v els ∧ els.length = zs.length ∧ ∀ (i : Nat) e z, els[i]? = some e → zs[i]? = some z → IsRZ H (.agg e) z
theorem IsRZs.fr {H H' : Heap} {v : SV} {zs : List Int} (h : IsRZs H v zs) (hf : Frame H H') : IsRZs H' v zs := by
  obtain ⟨els, h1, h2, h3⟩ := h
  exact ⟨els, h1.fr hf, h2, fun i e z he hz => (h3 i e z he hz).fr hf⟩
theorem IsRZs.len {H : Heap} {v : SV} {zs : List Int} (h : IsRZs H v zs) (k : K1) : slow.len v k = k (i64 zs.length) := by
  obtain ⟨els, h1, h2, h3⟩ := h
  rw [h1.len, h2]
theorem IsRZs.slice {H : Heap} {v : SV} {zs : List Int} (h : IsRZs H v zs) : isSlice v := by
  obtain ⟨els, ⟨s, rfl, h1, _⟩, h2, h3⟩ := h
  trivial
theorem IsRZs.load {H : Heap} {v : SV} {zs : List Int} (h : IsRZs H v zs) {i : Nat} {z : Int} (hz : zs[i]? = some z) : ∃ x, (∀ kd k, slow.idx 2 v (.int kd i) (fun p => slow.load 2 true p H k) = k x) ∧ IsRZ H x z := by
  obtain ⟨els, h1, h2, h3⟩ := h
  have hi := (List.getElem?_eq_some_iff.1 hz).1
  obtain ⟨e, he⟩ : ∃ e, els[i]? = some e := ⟨_, List.getElem?_eq_getElem (by omega)⟩
  exact ⟨_, fun kd k => h1.load (by decide) he kd k, h3 i e z he hz⟩
/-- Numbers stay where their own row stays, and only rows without digits change. -/
theorem IsRZs.keep {H H' : Heap} {v : SV} {zs : List Int} (h : IsRZs H v zs) {X : Nat → Prop} (hv : ∀ r, inRow v r → ¬ X r) (hX : ∀ r row, X r → H.get r = some row → ∀ c ∈ row.cells, ∀ n, c ≠ .int .u32 n) (hro : ∀ r, ¬ X r → r < H.size → H'.get r = H.get r) : IsRZs H' v zs := by
  obtain ⟨els, h1, h2, h3⟩ := h
  refine ⟨els, ?_, h2, fun i e z he hz => (h3 i e z he hz).keep hX hro⟩
  obtain ⟨s, rfl, g1, g0, g3⟩ := h1
  refine ⟨s, rfl, g1, g0, ?_⟩
  rcases g3 with g3 | ⟨r, o, row, b1, b2, b3, b4⟩
  · exact .inl g3
  · exact .inr ⟨r, o, row, b1, by rw [hro r (hv r ⟨s, o, rfl, b1⟩) (Heap.get_lt b2)]; exact b2, b3, b4⟩
theorem IsZs.keepU {H H' : Heap} {v : SV} {zs : List Int} (h : IsZs H v zs) {X : Nat → Prop} (hv : ∀ r, inRow v r → ¬ X r) (hX : ∀ r row, X r → H.get r = some row → ∀ c ∈ row.cells, ∀ n, c ≠ .int .u32 n) (hro : ∀ r, ¬ X r → r < H.size → H'.get r = H.get r) : IsZs H' v zs := by
  obtain ⟨els, h1, h2, h3⟩ := h
  refine ⟨els, ?_, h2, fun i e z he hz => (h3 i e z he hz).keepU hX hro⟩
  obtain ⟨s, rfl, g1, g0, g3⟩ := h1
  refine ⟨s, rfl, g1, g0, ?_⟩
  rcases g3 with g3 | ⟨r, o, row, b1, b2, b3, b4⟩
  · exact .inl g3
  · exact .inr ⟨r, o, row, b1, by rw [hro r (hv r ⟨s, o, rfl, b1⟩) (Heap.get_lt b2)]; exact b2, b3, b4⟩
theorem Arr.keepV {H H' : Heap} {v : SV} {cs : List SV} (h : Arr H v cs) {X : Nat → Prop} (hv : ∀ r, inRow v r → ¬ X r) (hro : ∀ r, ¬ X r → r < H.size → H'.get r = H.get r) : Arr H' v cs := by
  obtain ⟨s, rfl, h2, h3⟩ := h
  refine ⟨s, rfl, h2, ?_⟩
  rcases h3 with h3 | ⟨r, o, row, b1, b2, b3, b4⟩
  · exact .inl h3
  · exact .inr ⟨r, o, row, b1, by rw [hro r (hv r ⟨s, o, rfl, b1⟩) (Heap.get_lt b2)]; exact b2, b3, b4⟩
theorem IsRZ.cell {H : Heap} {e : List SV} {z : Int} (h : IsRZ H (.agg e) z) : zCell e := by
  obtain ⟨s, e1, _⟩ := h
  cases e1
  exact ⟨_, _, rfl⟩
theorem IsRZs.keepS {H H' : Heap} {v : SV} {zs : List Int} (h : IsRZs H v zs) {X : Nat → Prop} (hX : ∀ r row, X r → H.get r = some row → ∀ c ∈ row.cells, isSlice c) (hro : ∀ r, ¬ X r → r < H.size → H'.get r = H.get r) : IsRZs H' v zs := by
  obtain ⟨els, h1, h2, h3⟩ := h
  refine ⟨els, ?_, h2, fun i e z he hz => (h3 i e z he hz).keep (fun r row hx hg c hc n => isSlice_not_int (hX r row hx hg c hc) _ n) hro⟩
  obtain ⟨s, rfl, g1, g0, g3⟩ := h1
  refine ⟨s, rfl, g1, g0, ?_⟩
  rcases g3 with g3 | ⟨r, o, row, b1, b2, b3, b4⟩
  · exact .inl g3
  · cases els with
    | nil => left; rfl
    | cons e els =>
      right
      obtain ⟨z, hz⟩ : ∃ z, zs[0]? = some z := ⟨_, List.getElem?_eq_getElem (by simp at h2; omega)⟩
      obtain ⟨b, s', rfl⟩ := (h3 0 e z rfl hz).cell
      have h0 := b4 0 _ rfl 0 _ rfl
      have hne : ¬ X r := fun hx => hX r row hx b2 _ (List.mem_of_getElem? h0)
      exact ⟨r, o, row, b1, by rw [hro r hne (Heap.get_lt b2)]; exact b2, b3, b4⟩
/-- Rows of the reference's numbers; no row of the heap that holds them lies below lo. -/
def IsRRows (lo : Nat) (H : Heap) (v : SV) (rows : List (List Int)) : Prop := ∃ ws, Arr H v ws ∧ ws.length = rows.length ∧ (∀ r, inRow v r → lo ≤ r) ∧ ∀ (i : Nat) w zs, ws[i]? = some w → rows[i]? = some zs → IsRZs H w zs ∧ ∀ r, inRow w r → lo ≤ r
theorem IsRRows.fr {lo : Nat} {H H' : Heap} {v : SV} {rows : List (List Int)} (h : IsRRows lo H v rows) (hf : Frame H H') : IsRRows lo H' v rows := by
  obtain ⟨ws, h1, h2, h0, h3⟩ := h
  exact ⟨ws, h1.fr hf, h2, h0, fun i w zs hw hz => ⟨(h3 i w zs hw hz).1.fr hf, (h3 i w zs hw hz).2⟩⟩
theorem IsRRows.nil (lo : Nat) (H : Heap) : IsRRows lo H (.slice nilSl) [] := ⟨[], Arr.nil H, rfl, fun r hr => absurd hr (not_inRow_nil r), fun i w zs hw => by simp at hw⟩
theorem IsRRows.len {lo : Nat} {H : Heap} {v : SV} {rows : List (List Int)} (h : IsRRows lo H v rows) (k : K1) : slow.len v k = k (i64 rows.length) := by
  obtain ⟨ws, h1, h2, h3⟩ := h
  rw [h1.len, h2]
theorem IsRRows.load {lo : Nat} {H : Heap} {v : SV} {rows : List (List Int)} (h : IsRRows lo H v rows) {i : Nat} {zs : List Int} (hz : rows[i]? = some zs) : ∃ w, (∀ kd k, slow.idx 1 v (.int kd i) (fun p => slow.load 1 false p H k) = k w) ∧ IsRZs H w zs := by
  obtain ⟨ws, h1, h2, h0, h3⟩ := h
  have hi := (List.getElem?_eq_some_iff.1 hz).1
  obtain ⟨w, hw⟩ : ∃ w, ws[i]? = some w := ⟨_, List.getElem?_eq_getElem (by omega)⟩
  exact ⟨w, fun kd k => h1.load hw kd k, (h3 i w zs hw hz).1⟩
theorem IsRRows.keep {lo : Nat} {H H' : Heap} {v : SV} {rows : List (List Int)} (h : IsRRows lo H v rows) {X : Nat → Prop} (hlo : ∀ r, X r → r < lo) (hX : ∀ r row, X r → H.get r = some row → ∀ c ∈ row.cells, ∀ n, c ≠ .int .u32 n) (hro : ∀ r, ¬ X r → r < H.size → H'.get r = H.get r) : IsRRows lo H' v rows := by
  obtain ⟨ws, h1, h2, h0, h3⟩ := h
  refine ⟨ws, Arr.keepV h1 (fun r hr hx => ?_) hro, h2, h0, fun i w zs hw hz => ⟨(h3 i w zs hw hz).1.keep (fun r hr hx => ?_) hX hro, (h3 i w zs hw hz).2⟩⟩
  · have := h0 r hr; have := hlo r hx; omega
  · have := (h3 i w zs hw hz).2 r hr; have := hlo r hx; omega
/-- Fits. -/
theorem rfits_ok (K : Nat) (d : Nat) (H : Heap) (n m : Nat) :
    runQ wk tab slow K (d + 1) 26 [i64 n, i64 m] H = some (.bool (decide (n = 0) || (decide (n ≤ 16) && (decide (1 ≤ m) && decide (m ≤ 16)))), H) := by
  show f26 slow K (runQ wk tab slow K d) (i64 n) (i64 m) H = _
  simp only [f26]
  rw [show (SV.int .i64 0) = i64 0 from rfl, n_eql, z_guard]
  by_cases h0 : n = 0
  · rw [decide_eq_true h0, cond_true]
    simp only [f26_j1, z_rest_bool, Bool.true_or]
  · rw [decide_eq_false h0, cond_false, show (SV.int .i64 16) = i64 16 from rfl, n_leq, z_guard]
    by_cases h1 : n ≤ 16
    · rw [decide_eq_true h1, cond_true, show (SV.int .i64 1) = i64 1 from rfl, n_geq, z_guard]
      by_cases h2 : 1 ≤ m
      · rw [decide_eq_true (show m ≥ 1 from h2), cond_true, n_leq]
        simp only [f26_j1, z_rest_bool, Bool.false_or, Bool.true_and, decide_eq_true h2]
      · rw [decide_eq_false (show ¬ m ≥ 1 from h2), cond_false]
        simp only [f26_j1, z_rest_bool, Bool.false_or, Bool.true_and, Bool.false_and, decide_eq_false h2]
    · rw [decide_eq_false h1, cond_false]
      simp only [f26_j1, z_rest_bool, Bool.false_or, Bool.false_and]
/-! ### From -/
theorem rfrom_in (K : Nat) (hK : 100000 < K) (d : Nat) {H0 Hi : Heap} (h0i : Frame H0 Hi) {v : SV} {rows : List (List Int)} (hv : IsInts2 H0 v rows) {i : Nat} {zs : List Int} (hz : rows[i]? = some zs) (hsm : ∀ z ∈ zs, I64 z) (hzl : zs.length ≤ 100) {lo : Nat} {out : SV} {ws : List SV} (ho : Own lo Hi out ws) (hlo : lo ≤ Hi.size) (hwl : ws.length < 100000) (hws : ∀ w ∈ ws, isSlice w) (hi : i < 100000) (k29 : SV → SV → SV → Heap → Rs) : ∀ (m j fuel : Nat) (H : Heap) (t : SV) (els : List (List SV)), j + m = zs.length → m < fuel → Frame Hi H → OwnS 2 Hi.size H t els → els.length = j → (∀ e ∈ els, zCell e) → (∀ (q : Nat) e z, els[q]? = some e → zs[q]? = some z → IsRZ H (.agg e) z) →
    ∃ out' H' t', slow.loop5 (f8_l9 slow K (runQ wk tab slow K (d + 2)) k29) fuel v out (i64 i) t (i64 j) H = k29 v out' (i64 (i + 1)) H' ∧ Fr lo Hi H' ∧ (∀ r, ¬ inRow out r → r < Hi.size → H'.get r = Hi.get r) ∧ Own lo H' out' (ws ++ [t']) ∧ IsRZs H' t' zs ∧ ∀ r, inRow t' r → Hi.size ≤ r
  | 0, j, fuel, H, t, els, hjm, hf, hfr, ht, hel, hcell, hdone => by
    obtain ⟨fuel, rfl⟩ : ∃ m, fuel = m + 1 := ⟨fuel - 1, by omega⟩
    have hj : j = zs.length := by omega
    subst hj
    obtain ⟨w, hw, ha⟩ := (hv.fr (Frame.trans h0i hfr)).load (i := i) (cs := intsL .i64 zs) (by simp [hz])
    have hwlen : ∀ k, slow.len w k = k (i64 zs.length) := fun k => by rw [ha.len]; simp
    obtain ⟨out', H2, hp, ho2, hf2, hrw⟩ := push1 (ho.fr hfr) (Nat.le_trans hlo hfr.size) (.slice nilSl) (x := t) ht.arr.flat (by_ := 24) (roomy_small (by omega))
    have hge : ∀ r, inRow t r → Hi.size ≤ r := fun r hr => by
      obtain ⟨_, base, rfl, h⟩ := ht
      obtain ⟨s, o, e, h4⟩ := hr
      cases e
      rcases h with ⟨rfl, _⟩ | ⟨r', ver, rfl, h2, h3⟩
      · cases h4
      · cases h4; exact h2
    refine ⟨out', H2, t, ?_, (hfr.mono hlo).trans hf2, fun r hn hlt => by rw [hrw r hn (Nat.lt_of_lt_of_le hlt hfr.size), hfr.rows r hlt], ho2, ?_, hge⟩
    · rw [z_loop5]
      have hlt : ¬ zs.length < zs.length := Nat.lt_irrefl _
      simp only [f8_l9, hw, hwlen, n_lss, decide_eq_false hlt, z_cond, cond_false, hp]
      rw [show (SV.int .i64 1) = i64 1 from rfl, n_addi _ (by omega)]
    · refine IsRZs.keep (H := H) (X := fun r => inRow out r) ⟨els, ht.arr, hel, hdone⟩ (fun r hr hx => ?_) (fun r rw hr hg c hc n => ?_) hrw
      · have := hge r hr
        have := Own.lt ho hx
        omega
      · rw [Own.cells (ho.fr hfr) hr hg] at hc
        exact isSlice_not_int (hws c hc) _ _
  | m + 1, j, fuel, H, t, els, hjm, hf, hfr, ht, hel, hcell, hdone => by
    obtain ⟨fuel, rfl⟩ : ∃ m, fuel = m + 1 := ⟨fuel - 1, by omega⟩
    have hlt : j < zs.length := by omega
    obtain ⟨z, hz1⟩ : ∃ z, zs[j]? = some z := ⟨_, List.getElem?_eq_getElem hlt⟩
    have hs := hsm z (List.mem_of_getElem? hz1)
    obtain ⟨w, hw, ha⟩ := (hv.fr (Frame.trans h0i hfr)).load (i := i) (cs := intsL .i64 zs) (by simp [hz])
    have hwlen : ∀ k, slow.len w k = k (i64 zs.length) := fun k => by rw [ha.len]; simp
    obtain ⟨q, H1, h1, f1, hq⟩ := rzof_ok K (by omega) d H hs.1 hs.2
    obtain ⟨s, rfl, hsr⟩ := hq
    have hq : IsRZ H1 (.agg [.bool (decide (z < 0)), .slice s]) z := ⟨s, rfl, hsr⟩
    have ht1 := ht.fr f1
    obtain ⟨t', H2, hp, ht2, hf2, hro⟩ := pushS (by decide) (by decide) ht1 (Nat.le_trans hfr.size f1.size) [.bool false, .slice nilSl] rfl (e := [.bool (decide (z < 0)), .slice s]) rfl (by_ := 32) (roomy_small (by omega))
    have hX : ∀ r row, inRow t r → H1.get r = some row → ∀ c ∈ row.cells, ∀ n, c ≠ .int .u32 n := fun r row hr hg c hc n => by
      rw [OwnS.cells ht1 hr hg] at hc
      exact zCells_flat hcell c hc _ _
    obtain ⟨out', H3, t'', h3, f3, hrw3, ho3, ha3, hg3⟩ := rfrom_in K hK d h0i hv hz hsm hzl ho hlo hwl hws hi k29 m (j + 1) fuel H2 t' (els ++ [[.bool (decide (z < 0)), .slice s]]) (by omega) (by omega) (Fr.trans (Frame.trans hfr f1) hf2) ht2 (by simp [hel]) (fun e he => by
      rcases List.mem_append.1 he with he | he
      · exact hcell e he
      · rw [List.mem_singleton.1 he]; exact ⟨_, _, rfl⟩) (fun q e z' he hz' => by
      by_cases hqj : q < els.length
      · rw [List.getElem?_append_left hqj] at he
        exact ((hdone q e z' he hz').fr f1).keep (X := fun r => inRow t r) hX hro
      · have hq2 : q = els.length := by have := (List.getElem?_eq_some_iff.1 he).1; simp at this; omega
        subst hq2
        simp at he
        subst he
        rw [hel, hz1] at hz'
        cases hz'
        exact hq.keep (X := fun r => inRow t r) hX hro)
    refine ⟨out', H3, t'', ?_, f3, hrw3, ho3, ha3, hg3⟩
    rw [z_loop5]
    simp only [f8_l9, hw, hwlen, n_lss, decide_eq_true hlt, z_cond, cond_true, ha.load (ints_get hz1), h1, z_call, hp]
    rw [show (SV.int .i64 1) = i64 1 from rfl, n_addi _ (by omega)]
    exact h3
theorem rfrom_out (K : Nat) (hK : 100000 < K) (d : Nat) {H0 : Heap} {v : SV} {rows : List (List Int)} (hv : IsInts2 H0 v rows) (hsm : ∀ r ∈ rows, ∀ z ∈ r, I64 z) (hcl : ∀ r ∈ rows, r.length ≤ 100) (hrl : rows.length < 100000) : ∀ (m i fuel : Nat) (H : Heap) (out : SV) (ws : List SV), i + m = rows.length → m < fuel → Frame H0 H → Own H0.size H out ws → ws.length = i → (∀ w ∈ ws, isSlice w) → (∀ (q : Nat) (w : SV) (zs : List Int), ws[q]? = some w → rows[q]? = some zs → IsRZs H w zs ∧ ∀ r, inRow w r → H0.size ≤ r) →
    ∃ r H', slow.loop3 (f8_l7 slow K (runQ wk tab slow K (d + 2))) fuel v out (i64 i) H = some (.tuple [r, .int .i64 0], H') ∧ Frame H0 H' ∧ IsRRows H0.size H' r rows
  | 0, i, fuel, H, out, ws, him, hf, hfr, ho, hwl, hws, hdone => by
    obtain ⟨fuel, rfl⟩ : ∃ m, fuel = m + 1 := ⟨fuel - 1, by omega⟩
    have hi : i = rows.length := by omega
    have hlen : ∀ k, slow.len v k = k (i64 rows.length) := fun k => by rw [(hv.fr hfr).len]; simp
    refine ⟨out, H, ?_, hfr, ws, ho.arr, by omega, fun r hr => Own.ge ho hr, hdone⟩
    rw [z_loop3]
    have hlt : ¬ i < rows.length := by omega
    simp only [f8_l7, hlen, n_lss, decide_eq_false hlt, z_cond, cond_false, z_rest ho.arr.good]
  | m + 1, i, fuel, H, out, ws, him, hf, hfr, ho, hwl, hws, hdone => by
    obtain ⟨fuel, rfl⟩ : ∃ m, fuel = m + 1 := ⟨fuel - 1, by omega⟩
    have hlt : i < rows.length := by omega
    have hlen : ∀ k, slow.len v k = k (i64 rows.length) := fun k => by rw [(hv.fr hfr).len]; simp
    obtain ⟨zs, hz⟩ : ∃ zs, rows[i]? = some zs := ⟨_, List.getElem?_eq_getElem hlt⟩
    have hzm := List.mem_of_getElem? hz
    obtain ⟨out', H1, t', h1, f1, hrw1, ho1, ha1, hg1⟩ := rfrom_in K hK d (H0 := H0) (Hi := H) hfr hv hz (hsm zs hzm) (hcl zs hzm) ho hfr.size (by omega) hws (by omega) (slow.loop3 (f8_l7 slow K (runQ wk tab slow K (d + 2))) fuel) zs.length 0 K H (.slice nilSl) [] (by omega) (by have := hcl zs hzm; omega) (Fr.refl _ _) (OwnS.nil _ _ _) rfl (fun e he => by cases he) (fun q e z he => by simp at he)
    have hs' : isSlice t' := ha1.slice
    obtain ⟨r, H2, h2, f2, ht⟩ := rfrom_out K hK d hv hsm hcl hrl m (i + 1) fuel H1 out' (ws ++ [t']) (by omega) (by omega) (Fr.trans hfr f1) ho1 (by simp [hwl]) (fun q hq => by
      rcases List.mem_append.1 hq with hq | hq
      · exact hws q hq
      · rw [List.mem_singleton.1 hq]; exact hs') (fun q u zs' hu hz' => by
        by_cases hq : q < ws.length
        · rw [List.getElem?_append_left hq] at hu
          exact ⟨(hdone q u zs' hu hz').1.keepS (X := fun r => inRow out r) (fun r rw hr hg c hc => by rw [Own.cells ho hr hg] at hc; exact hws c hc) hrw1, (hdone q u zs' hu hz').2⟩
        · have hq2 : q = ws.length := by have := (List.getElem?_eq_some_iff.1 hu).1; simp at this; omega
          subst hq2
          simp at hu
          subst hu
          rw [hwl, hz] at hz'
          cases hz'
          exact ⟨ha1, fun r hr => Nat.le_trans hfr.size (hg1 r hr)⟩)
    refine ⟨r, H2, ?_, f2, ht⟩
    rw [z_loop3]
    simp only [f8_l7, hlen, n_lss, decide_eq_true hlt, z_cond, cond_true]
    rw [show (SV.int .i64 0) = i64 0 from rfl, h1]
    exact h2
/-- From: the test. -/
theorem rfrom_test (K : Nat) (hK : 100000 < K) (d : Nat) {H : Heap} {v : SV} {rows : List (List Int)} (hv : IsInts2 H v rows) (hsm : ∀ r ∈ rows, ∀ z ∈ r, I64 z) (hcl : ∀ r ∈ rows, r.length ≤ 100) (hrl : rows.length < 100000) : ∀ (rest : List (List Int)) (i fuel : Nat), rows.drop i = rest → rest.length < fuel → (∀ q r, q < i → rows[q]? = some r → rows.length ≤ 16 ∧ 1 ≤ r.length ∧ r.length ≤ 16 ∧ r.length = colsOf rows) →
    ∃ r H', slow.loop3 (f8_l1 slow K (runQ wk tab slow K (d + 2))) fuel v (.slice nilSl) (i64 i) H = some (.tuple [r, .int .i64 (ofErr rows)], H') ∧ Frame H H' ∧ IsRRows H.size H' r (ofMat rows)
  | [], i, fuel, hd, hf, hok => by
    obtain ⟨fuel, rfl⟩ : ∃ m, fuel = m + 1 := ⟨fuel - 1, by omega⟩
    have hi : ¬ i < rows.length := by have := List.drop_eq_nil_iff.1 hd; omega
    have hlen : ∀ k, slow.len v k = k (i64 rows.length) := fun k => by rw [hv.len]; simp
    have hsh : shapedB (rows.map List.length) = true := by
      rw [shapedB_iff]
      by_cases h0 : rows = []
      · exact .inl h0
      · refine .inr ⟨?_, fun r hr => ?_⟩
        · obtain ⟨r0, hr0⟩ : ∃ r, rows[0]? = some r := ⟨_, List.getElem?_eq_getElem (List.length_pos_iff.2 h0)⟩
          exact (hok 0 r0 (by have := List.length_pos_iff.2 h0; omega) hr0).1
        · obtain ⟨q, hq⟩ := List.getElem?_of_mem hr
          exact (hok q r (by have := (List.getElem?_eq_some_iff.1 hq).1; omega) hq).2
    have e1 : ofErr rows = 0 := by unfold ofErr; rw [hsh]; rfl
    have e2 : ofMat rows = rows := by unfold ofMat; rw [hsh]; rfl
    rw [e1, e2, z_loop3]
    simp only [f8_l1, hlen, n_lss, decide_eq_false hi, z_cond, cond_false]
    exact rfrom_out K hK d hv hsm hcl hrl rows.length 0 K H (.slice nilSl) [] (by omega) (by omega) (Fr.refl _ _) (Own.nil _ _) rfl (fun w hw => by cases hw) (fun q w zs hw => by simp at hw)
  | r :: rest, i, fuel, hd, hf, hok => by
    obtain ⟨fuel, rfl⟩ : ∃ m, fuel = m + 1 := ⟨fuel - 1, by omega⟩
    have hr : rows[i]? = some r := by
      have := congrArg List.head? hd
      rwa [List.head?_drop, List.head?_cons] at this
    have hi : i < rows.length := (List.getElem?_eq_some_iff.1 hr).1
    have hd' : rows.drop (i + 1) = rest := by rw [← List.drop_drop, hd]; rfl
    obtain ⟨r0, hr0⟩ : ∃ r, rows[0]? = some r := ⟨_, List.getElem?_eq_getElem (by omega)⟩
    have hc0 : colsOf rows = r0.length := by simp [colsOf, hr0]
    have hlen : ∀ k, slow.len v k = k (i64 rows.length) := fun k => by rw [hv.len]; simp
    obtain ⟨w, hw, ha⟩ := hv.load (i := i) (cs := intsL .i64 r) (by simp [hr])
    obtain ⟨w0, hw0, ha0⟩ := hv.load (i := 0) (cs := intsL .i64 r0) (by simp [hr0])
    have hwl : ∀ k, slow.len w k = k (i64 r.length) := fun k => by rw [ha.len]; simp
    have hwl0 : ∀ k, slow.len w0 k = k (i64 r0.length) := fun k => by rw [ha0.len]; simp
    have hw0' : ∀ k, slow.idx 1 v (.int .i64 0) (fun p => slow.load 1 false p H k) = k w0 := fun k => hw0 .i64 k
    have hfit := rfits_ok K (d + 1) H rows.length r.length
    have hrm := List.mem_of_getElem? hr
    by_cases hgood : rows.length ≤ 16 ∧ 1 ≤ r.length ∧ r.length ≤ 16 ∧ r.length = colsOf rows
    · obtain ⟨g1, g2, g3, g4⟩ := hgood
      obtain ⟨q, H1, h1, f1, m1⟩ := rfrom_test K hK d hv hsm hcl hrl rest (i + 1) fuel hd' (by simp at hf; omega) (fun q r' hq hr' => by
        by_cases hqi : q = i
        · subst hqi
          rw [hr] at hr'
          cases hr'
          exact ⟨g1, g2, g3, g4⟩
        · exact hok q r' (by omega) hr')
      refine ⟨q, H1, ?_, f1, m1⟩
      have hne : ¬ (rows.length = 0) := by omega
      have hsame : ¬ (r.length ≠ r0.length) := by rw [← hc0]; omega
      rw [decide_eq_false hne, decide_eq_true g1, decide_eq_true g2, decide_eq_true g3] at hfit
      rw [z_loop3]
      simp only [f8_l1, hlen, n_lss, decide_eq_true hi, z_cond, cond_true, hw, hwl, hfit, z_call, z_not, z_guard, hw0', hwl0]
      simp only [Bool.and_self, Bool.or_true, Bool.not_true, cond_false, n_neq, decide_eq_false hsame, f8_j3, z_cond]
      rw [show (SV.int .i64 1) = i64 1 from rfl, n_addi _ (by omega)]
      exact h1
    · have hsh : shapedB (rows.map List.length) = false := by
        cases hb : shapedB (rows.map List.length) with
        | false => rfl
        | true =>
          exfalso
          rcases shapedB_iff.1 hb with h | h
          · rw [h] at hi; simp at hi
          · exact hgood ⟨h.1, h.2 r hrm⟩
      have e1 : ofErr rows = 5 := by unfold ofErr; rw [hsh]; rfl
      have e2 : ofMat rows = [] := by unfold ofMat; rw [hsh]; rfl
      rw [e1, e2]
      refine ⟨.slice nilSl, H, ?_, Fr.refl _ _, IsRRows.nil _ _⟩
      rw [z_loop3]
      simp only [f8_l1, hlen, n_lss, decide_eq_true hi, z_cond, cond_true, hw, hwl, hfit, z_call, z_not, z_guard, hw0', hwl0, n_neq]
      have hne : ¬ (rows.length = 0) := by omega
      rw [decide_eq_false hne, Bool.false_or]
      by_cases g : rows.length ≤ 16 ∧ 1 ≤ r.length ∧ r.length ≤ 16
      · obtain ⟨g1, g2, g3⟩ := g
        have hdiff : r.length ≠ r0.length := by rw [← hc0]; exact fun e => hgood ⟨g1, g2, g3, e⟩
        rw [decide_eq_true g1, decide_eq_true g2, decide_eq_true g3]
        simp only [Bool.and_self, Bool.not_true, cond_false, decide_eq_true hdiff, f8_j3, z_cond, cond_true]
      · have hfalse : (decide (rows.length ≤ 16) && (decide (1 ≤ r.length) && decide (r.length ≤ 16))) = false := by
          rw [Bool.eq_false_iff]
          intro h
          simp only [Bool.and_eq_true, decide_eq_true_eq] at h
          exact g ⟨h.1, h.2.1, h.2.2⟩
        rw [hfalse]
        simp only [Bool.not_false, cond_true, f8_j3, z_cond]
theorem rfrom_ok (K : Nat) (hK : 100000 < K) (d : Nat) (H : Heap) {v : SV} {rows : List (List Int)} (hv : IsInts2 H v rows) (hsm : ∀ r ∈ rows, ∀ z ∈ r, I64 z) (hcl : ∀ r ∈ rows, r.length ≤ 100) (hrl : rows.length < 100000) :
    ∃ r H', runQ wk tab slow K (d + 3) 8 [v] H = some (.tuple [r, .int .i64 (ofErr rows)], H') ∧ Frame H H' ∧ IsRRows H.size H' r (ofMat rows) := by
  exact rfrom_test K hK d hv hsm hcl hrl rows 0 K rfl (by omega) (fun q r hq => by omega)
end Go.Sh.Of
