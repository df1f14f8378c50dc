/- MatMakes: the rows are copied, as numbers of the machine and as whole numbers. -/
import Derived.Test.YtnjdnndlhpdjiaaRefE
set_option linter.unusedVariables false
set_option linter.unusedSimpArgs false
namespace Go.Sh.Of
open Go

theorem push1F {lo : Nat} {H : Heap} {t : SV} {cs : List SV} (h : Own lo H t cs) (hl : lo ≤ H.size) (z : SV) {x : SV} (hx : x.flat = true) {by_ : Nat} (hr : roomy (cs.length + 1) by_ = true) :
    ∃ t' H', (∀ k, slow.hbuild 1 [z] [(0, 1)] [x] H (fun u H1 => slow.append 1 by_ t u H1 k) = k t' H') ∧ Own lo H' t' (cs ++ [x]) ∧ Fr lo H H' ∧ (∀ r, ¬ inRow t r → r < H.size → H'.get r = H.get r) ∧ ∀ r, inRow t' r → H.size ≤ r := by
  obtain ⟨u, H1, hu, hou, hfu, hru, hsz⟩ := z_lay1 (H := H) (lo := H.size) (Nat.le_refl _) z hx
  obtain ⟨t', H2, ha, ho2, hf2, hrw, hin, _⟩ := (h.fr hfu).append (Nat.le_trans hl hfu.size) hou.arr (by_ := by_) hr
  exact ⟨t', H2, fun k => by rw [hu, ha], ho2, (hfu.mono hl).trans hf2, fun r hn hlt => by rw [hrw r hn (Nat.lt_of_lt_of_le hlt hfu.size), hfu.rows r hlt], fun r hr' => by
    rw [inRow_uniq hr' (hin (by simp))]; exact hfu.size⟩
theorem OwnS.lt {n lo : Nat} {H : Heap} {v : SV} {els : List (List SV)} (h : OwnS n lo H v els) {r : Nat} (hr : inRow v r) : r < H.size := by
  obtain ⟨_, base, rfl, h⟩ := h
  obtain ⟨s, o, e, h4⟩ := hr
  cases e
  rcases h with ⟨rfl, _⟩ | ⟨r', ver, rfl, h2, h3⟩
  · cases h4
  · cases h4; exact Heap.get_lt h3
theorem OwnS.mono {n lo lo' : Nat} {H : Heap} {v : SV} {els : List (List SV)} (h : OwnS n lo H v els) (hl : lo' ≤ lo) : OwnS n lo' H v els := by
  obtain ⟨hn, base, h1, h⟩ := h
  refine ⟨hn, base, h1, ?_⟩
  rcases h with h | ⟨r, ver, e, h2, h3⟩
  · exact .inl h
  · exact .inr ⟨r, ver, e, by omega, h3⟩
/-- The inner loop: a row of whole numbers. -/
theorem mk_in (K : Nat) (hK : 100000 < K) (d : Nat) {H0 Hi : Heap} (h0i : Frame H0 Hi) {x : SV} {zs : List Int} (ha : Arr H0 x (intsL .i64 zs)) (hsm : ∀ z ∈ zs, I64 z) (hzl : zs.length ≤ 100) {lo : Nat} {out : SV} {ws : List SV} (ho : Own lo Hi out ws) (hlo : lo ≤ Hi.size) (hwl : ws.length < 100000) (hws : ∀ w ∈ ws, isSlice w) {i : Nat} (hi : i < 100000) (v n y35 y38 : SV) (k15 : SV → SV → SV → SV → SV → SV → Heap → Rs) : ∀ (m j fuel : Nat) (H : Heap) (t : SV) (els : List (List SV)), j + m = zs.length → m < fuel → Frame Hi H → OwnS 2 Hi.size H t els → els.length = j → (∀ e ∈ els, zCell e) → (∀ (q : Nat) e z, els[q]? = some e → zs[q]? = some z → IsInt H (.agg e) z) →
    ∃ out' H' t' els' B, slow.loop10 (f3_l6 slow K (runQ wk tab slow K (d + 3)) k15) fuel v n y35 out t y38 (i64 i) x (i64 zs.length) (i64 j) H = k15 v n y35 out' y38 (i64 (i + 1)) H' ∧ Fr lo Hi H' ∧ (∀ r, ¬ inRow out r → r < Hi.size → H'.get r = Hi.get r) ∧ Own lo H' out' (ws ++ [t']) ∧ OwnS 2 Hi.size H' t' els' ∧ els'.length = zs.length ∧ (∀ e ∈ els', zCell e) ∧ (∀ (q : Nat) e z, els'[q]? = some e → zs[q]? = some z → IsInt H' (.agg e) z) ∧ Hi.size ≤ B ∧ (∀ r, inRow t' r → r < B) ∧ (∀ r, inRow out' r → B ≤ r) ∧ isSlice t'
  | 0, j, fuel, H, t, els, hjm, hf, hfr, ht, hel, hcell, hdone => by
    obtain ⟨fuel, rfl⟩ : ∃ m, fuel = m + 1 := ⟨fuel - 1, by omega⟩
    have hj : j = zs.length := by omega
    subst hj
    obtain ⟨out', H2, hp, ho2, hf2, hrw, hge⟩ := push1F (ho.fr hfr) (Nat.le_trans hlo hfr.size) (.slice nilSl) (x := t) ht.arr.flat (by_ := 24) (roomy_small (by omega))
    have hX : ∀ r rw, inRow out r → H.get r = some rw → ∀ c ∈ rw.cells, ∀ n, c ≠ .int .u32 n := fun r rw hr hg c hc n => by
      rw [Own.cells (ho.fr hfr) hr hg] at hc
      exact isSlice_not_int (hws c hc) _ _
    refine ⟨out', H2, t, els, H.size, ?_, (hfr.mono hlo).trans hf2, fun r hn hlt => by rw [hrw r hn (Nat.lt_of_lt_of_le hlt hfr.size), hfr.rows r hlt], ho2, ht.of_rows (fun r hr => hrw r (fun hx => ?_) (OwnS.lt ht hr)), hel, hcell, fun q e z he hz => (hdone q e z he hz).keepU (X := fun r => inRow out r) hX hrw, hfr.size, fun r hr => OwnS.lt ht hr, hge, ?_⟩
    · rw [z_loop10]
      have hlt : ¬ zs.length < zs.length := Nat.lt_irrefl _
      simp only [f3_l6, n_lss, decide_eq_false hlt, z_cond, cond_false, hp]
      rw [show (SV.int .i64 1) = i64 1 from rfl, n_addi _ (by omega)]
    · have := OwnS.geA ht hr
      have := Own.lt ho hx
      omega
    · obtain ⟨_, base, rfl, _⟩ := ht
      trivial
  | m + 1, j, fuel, H, t, els, hjm, hf, hfr, ht, hel, hcell, hdone => by
    obtain ⟨fuel, rfl⟩ : ∃ m, fuel = m + 1 := ⟨fuel - 1, by omega⟩
    have hlt : j < zs.length := by omega
    obtain ⟨z, hz1⟩ : ∃ z, zs[j]? = some z := ⟨_, List.getElem?_eq_getElem hlt⟩
    have hs := hsm z (List.mem_of_getElem? hz1)
    have haH := ha.fr (Frame.trans h0i hfr)
    obtain ⟨q, H1, h1, f1, hq⟩ := zof_ok K (by omega) d H hs.1 hs.2
    obtain ⟨sl, rfl, hsr, hsf⟩ := hq
    have hq : IsInt H1 (.agg [.bool (decide (z < 0)), sl]) z := ⟨sl, rfl, hsr, hsf⟩
    have ht1 := ht.fr f1
    obtain ⟨t', H2, hp, ht2, hf2, hro⟩ := pushS (by decide) (by decide) ht1 (Nat.le_trans hfr.size f1.size) [.bool false, .slice nilSl] rfl (e := [.bool (decide (z < 0)), sl]) rfl (by_ := 32) (roomy_small (by omega))
    have hX : ∀ r row, inRow t r → H1.get r = some row → ∀ c ∈ row.cells, ∀ n, c ≠ .int .u32 n := fun r row hr hg c hc n => by
      rw [OwnS.cells ht1 hr hg] at hc
      exact zCells_flat hcell c hc _ _
    obtain ⟨out', H3, t'', els', B, h3, rest⟩ := mk_in K hK d h0i ha hsm hzl ho hlo hwl hws hi v n y35 y38 k15 m (j + 1) fuel H2 t' (els ++ [[.bool (decide (z < 0)), sl]]) (by omega) (by omega) (Fr.trans (Frame.trans hfr f1) hf2) ht2 (by simp [hel]) (fun e he => by
      rcases List.mem_append.1 he with he | he
      · exact hcell e he
      · rw [List.mem_singleton.1 he]; exact hq.cell) (fun q e z' he hz' => by
      by_cases hqj : q < els.length
      · rw [List.getElem?_append_left hqj] at he
        exact ((hdone q e z' he hz').fr f1).keepU (X := fun r => inRow t r) hX hro
      · have hq2 : q = els.length := by have := (List.getElem?_eq_some_iff.1 he).1; simp at this; omega
        subst hq2
        simp at he
        subst he
        rw [hel, hz1] at hz'
        cases hz'
        exact hq.keepU (X := fun r => inRow t r) hX hro)
    refine ⟨out', H3, t'', els', B, ?_, rest⟩
    rw [z_loop10]
    simp only [f3_l6, n_lss, decide_eq_true hlt, z_cond, cond_true, haH.load (ints_get hz1), h1, z_call, hp]
    rw [show (SV.int .i64 1) = i64 1 from rfl, n_addi _ (by omega)]
    exact h3
/-- The rows so far: whose row of the heap is whose. -/
structure Mk (lo : Nat) (H : Heap) (a b : SV) (ws us : List SV) (rows : List (List Int)) (i : Nat) (F : Nat → Nat) : Prop where
  oa : Own lo H a ws
  ob : Own lo H b us
  la : ws.length = i
  lb : us.length = i
  sa : ∀ w ∈ ws, isSlice w
  sb : ∀ w ∈ us, isSlice w
  fa : ∀ r, inRow a r → F r = 0
  fb : ∀ r, inRow b r → F r = 1
  ra : ∀ (q : Nat) w zs, ws[q]? = some w → rows[q]? = some zs → Own lo H w (intsL .i64 zs)
  rb : ∀ (q : Nat) w zs, us[q]? = some w → rows[q]? = some zs → ∃ els, OwnS 2 lo H w els ∧ els.length = zs.length ∧ (∀ e ∈ els, zCell e) ∧ ∀ (j : Nat) e z, els[j]? = some e → zs[j]? = some z → IsInt H (.agg e) z
  ga : ∀ (q : Nat) w, ws[q]? = some w → ∀ r, inRow w r → F r = 2 * q + 2
  gb : ∀ (q : Nat) w, us[q]? = some w → ∀ r, inRow w r → F r = 2 * q + 3
end Go.Sh.Of
