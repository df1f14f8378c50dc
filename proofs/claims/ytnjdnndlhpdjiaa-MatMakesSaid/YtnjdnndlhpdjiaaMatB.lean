/- Contracts of the package mat: Text; words for rows of numbers and of texts. -/
import Derived.Test.YtnjdnndlhpdjiaaMatA
set_option linter.unusedVariables false
set_option linter.unusedSimpArgs false
namespace Go.Sh.Of
open Go

/-- One more behind a list of one's own. -/
theorem push1 {lo : Nat} {H : Heap} {t : SV} {cs : List SV} (h : Own lo H t cs) (hl : lo ≤ H.size) (z : SV) {x : SV} (hx : x.flat = true) {by_ : Nat} (hr : roomy (cs.length + 1) by_ = true) :
    ∃ t' H', (∀ k, slow.hbuild 1 [z] [(0, 1)] [x] H (fun u H1 => slow.append 1 by_ t u H1 k) = k t' H') ∧ Own lo H' t' (cs ++ [x]) ∧ Fr lo H H' ∧ (∀ r, ¬ inRow t r → r < H.size → H'.get r = H.get r) := by
  obtain ⟨u, H1, hu, hou, hfu, hru, hsz⟩ := z_lay1 (H := H) (lo := H.size) (Nat.le_refl _) z hx
  obtain ⟨t', H2, ha, ho2, hf2, hrw, _, _⟩ := (h.fr hfu).append (Nat.le_trans hl hfu.size) hou.arr (by_ := by_) hr
  exact ⟨t', H2, fun k => by rw [hu, ha], ho2, (hfu.mono hl).trans hf2, fun r hn hlt => by rw [hrw r hn (Nat.lt_of_lt_of_le hlt hfu.size), hfu.rows r hlt]⟩
/-- One struct more. -/
theorem pushS {n lo : Nat} (hn : 0 < n) (hn' : n ≤ 1000) {H : Heap} {t : SV} {els : List (List SV)} (h : OwnS n lo H t els) (hl : lo ≤ H.size) (z : List SV) (hz : z.length = n) {e : List SV} (he : e.length = n) {by_ : Nat} (hr : roomy (els.length + 1) by_ = true) :
    ∃ t' H', (∀ k, slow.hbuild n z [(0, n)] [.agg e] H (fun u H1 => slow.append n by_ t u H1 k) = k t' H') ∧ OwnS n lo H' t' (els ++ [e]) ∧ Fr lo H H' ∧ (∀ r, ¬ inRow t r → r < H.size → H'.get r = H.get r) := by
  obtain ⟨u, H1, hu, hou, hfu, hru, hsz⟩ := z_layS (H := H) (lo := H.size) (Nat.le_refl _) n hn hn' z hz he
  obtain ⟨t', H2, ha, ho2, hf2, hrw, _⟩ := OwnS.append hn (h.fr hfu) (Nat.le_trans hl hfu.size) hou.arr (by_ := by_) hr
  exact ⟨t', H2, fun k => by rw [hu, ha], ho2, (hfu.mono hl).trans hf2, fun r hn hlt => by rw [hrw r hn (Nat.lt_of_lt_of_le hlt hfu.size), hfu.rows r hlt]⟩
/-- Rows of cells. -/
def IsRowsC (H : Heap) (v : SV) (rows : List (List SV)) : Prop := ∃ ws, Arr H v ws ∧ ws.length = rows.length ∧ ∀ (i : Nat) w cs, ws[i]? = some w → rows[i]? = some cs → Arr H w cs
theorem IsRowsC.fr {H H' : Heap} {v : SV} {rows : List (List SV)} (h : IsRowsC H v rows) (hf : Frame H H') : IsRowsC H' v rows := by
  obtain ⟨ws, h1, h2, h3⟩ := h
  exact ⟨ws, h1.fr hf, h2, fun i w zs hw hz => (h3 i w zs hw hz).fr hf⟩
theorem IsRowsC.len {H : Heap} {v : SV} {rows : List (List SV)} (h : IsRowsC H v rows) (k : K1) : slow.len v k = k (i64 rows.length) := by
  obtain ⟨ws, h1, h2, h3⟩ := h
  rw [h1.len, h2]
theorem IsRowsC.load {H : Heap} {v : SV} {rows : List (List SV)} (h : IsRowsC H v rows) {i : Nat} {cs : List SV} (hz : rows[i]? = some cs) : ∃ w, (∀ kd k, slow.idx 1 v (.int kd i) (fun p => slow.load 1 false p H k) = k w) ∧ Arr H w cs := by
  obtain ⟨ws, h1, h2, h3⟩ := h
  have hi := (List.getElem?_eq_some_iff.1 hz).1
  obtain ⟨w, hw⟩ : ∃ w, ws[i]? = some w := ⟨_, List.getElem?_eq_getElem (by omega)⟩
  exact ⟨w, fun kd k => h1.load hw kd k, h3 i w cs hw hz⟩
theorem IsRowsC.flat {H : Heap} {v : SV} {rows : List (List SV)} (h : IsRowsC H v rows) : v.flat = true := by
  obtain ⟨ws, h1, h2, h3⟩ := h
  exact h1.flat
theorem IsRowsC.good {H : Heap} {v : SV} {rows : List (List SV)} (h : IsRowsC H v rows) : v.good = true := by
  obtain ⟨ws, h1, h2, h3⟩ := h
  exact h1.good
/-- Rows of numbers of the machine. -/
abbrev IsInts2 (H : Heap) (v : SV) (rows : List (List Int)) : Prop := IsRowsC H v (rows.map (intsL .i64))
abbrev strs (l : List (List UInt8)) : List SV := l.map .str
/-- Rows of texts. -/
abbrev IsTexts (H : Heap) (v : SV) (rows : List (List (List UInt8))) : Prop := IsRowsC H v (rows.map strs)
theorem strs_get {l : List (List UInt8)} {i : Nat} {s : List UInt8} (h : l[i]? = some s) : (strs l)[i]? = some (.str s) := by simp [h]
/-- Cells that are no slices stay where only rows of slices change. -/
theorem Arr.keep {H H' : Heap} {v : SV} {cs : List SV} (h : Arr H v cs) (hcs : ∀ c ∈ cs, ¬ isSlice c) {X : Nat → Prop} (hX : ∀ r row, X r → H.get r = some row → ∀ c ∈ row.cells, isSlice c) (hro : ∀ r, ¬ X r → r < H.size → H'.get r = H.get r) : Arr H' v cs := by
  obtain ⟨s, rfl, h2, h3⟩ := h
  refine ⟨s, rfl, h2, ?_⟩
  rcases h3 with h3 | ⟨r, o, row, b1, b2, b3, b4⟩
  · exact .inl h3
  · cases cs with
    | nil => left; rfl
    | cons c cs =>
      right
      have h0 := b4 0 c rfl
      have hne : ¬ X r := fun hx => hcs c (by simp) (hX r row hx b2 _ (List.mem_of_getElem? h0))
      exact ⟨r, o, row, b1, by rw [hro r hne (Heap.get_lt b2)]; exact b2, b3, b4⟩
theorem Arr.isSlice {H : Heap} {v : SV} {cs : List SV} (h : Arr H v cs) : isSlice v := (Arr.slen h).1
/-! ### Text -/
def textRows (rows : List (List Int)) : List (List (List UInt8)) := rows.map fun r => r.map textZ
def BigOk (rows : List (List Int)) : Prop := ∀ r ∈ rows, r.length ≤ 100 ∧ ∀ z ∈ r, z.natAbs < 2 ^ 4096
theorem mtext_in (K : Nat) (hK : 100000 < K) (d : Nat) {H0 Hi : Heap} (h0i : Frame H0 Hi) {w : SV} {zs : List Int} (hw : IsZs H0 w zs) (hzl : zs.length ≤ 100) (hbig : ∀ z ∈ zs, z.natAbs < 2 ^ 4096) {lo : Nat} {out : SV} {ws : List SV} (ho : Own lo Hi out ws) (hlo : lo ≤ Hi.size) (hwl : ws.length < 100000) (hws : ∀ w ∈ ws, isSlice w) (y17 : SV) (n i : Nat) (hi : i < 100000) (k10 : SV → SV → SV → SV → Heap → Rs) : ∀ (m j fuel : Nat) (H : Heap) (t : SV), j + m = zs.length → m < fuel → Frame Hi H → Own Hi.size H t (strs ((zs.take j).map textZ)) →
    ∃ out' H' t', slow.loop8 (f11_l3 slow K (runQ wk tab slow K (d + 3)) k10) fuel out t y17 (i64 n) (i64 i) w (i64 zs.length) (i64 j) H = k10 out' y17 (i64 n) (i64 (i + 1)) H' ∧ Fr lo Hi H' ∧ (∀ r, ¬ inRow out r → r < Hi.size → H'.get r = Hi.get r) ∧ Own lo H' out' (ws ++ [t']) ∧ Arr H' t' (strs (zs.map textZ))
  | 0, j, fuel, H, t, hjm, hf, hfr, ht => by
    obtain ⟨fuel, rfl⟩ : ∃ m, fuel = m + 1 := ⟨fuel - 1, by omega⟩
    have hj : j = zs.length := by omega
    subst hj
    rw [List.take_length] at ht
    obtain ⟨out', H2, ha, ho2, hf2, hrw⟩ := push1 (ho.fr hfr) (Nat.le_trans hlo hfr.size) (.slice nilSl) (x := t) ht.arr.flat (by_ := 24) (roomy_small (by omega))
    refine ⟨out', H2, t, ?_, (hfr.mono hlo).trans hf2, fun r hn hlt => by rw [hrw r hn (Nat.lt_of_lt_of_le hlt hfr.size), hfr.rows r hlt], ho2, ?_⟩
    · rw [z_loop8]
      have hlt : ¬ zs.length < zs.length := Nat.lt_irrefl _
      simp only [f11_l3, n_lss, decide_eq_false hlt, z_cond, cond_false, ha]
      rw [show (SV.int .i64 1) = i64 1 from rfl, n_addi _ (by omega)]
    · exact Arr.keep ht.arr (fun c hc => by
        obtain ⟨s, _, rfl⟩ := List.mem_map.1 hc
        exact id) (X := fun r => inRow out r) (fun r rw hr hg c hc => by rw [Own.cells (ho.fr hfr) hr hg] at hc; exact hws c hc) hrw
  | m + 1, j, fuel, H, t, hjm, hf, hfr, ht => by
    obtain ⟨fuel, rfl⟩ : ∃ m, fuel = m + 1 := ⟨fuel - 1, by omega⟩
    have hlt : j < zs.length := by omega
    obtain ⟨z, hz⟩ : ∃ z, zs[j]? = some z := ⟨_, List.getElem?_eq_getElem hlt⟩
    have hwH := hw.fr (Frame.trans h0i hfr)
    obtain ⟨x, y, hld, hint⟩ := hwH.load hz
    obtain ⟨H1, h1, f1⟩ := ztext_ok K (by omega) d H hint (hbig z (List.mem_of_getElem? hz))
    obtain ⟨t', H2, ha, ht2, hf2, _⟩ := push1 (ht.fr f1) (Nat.le_trans hfr.size f1.size) (.str []) (x := .str (textZ z)) rfl (by_ := 16) (roomy_small (by simp; omega))
    have e1 : strs ((zs.take j).map textZ) ++ [SV.str (textZ z)] = strs ((zs.take (j + 1)).map textZ) := by
      rw [List.take_add_one, hz]; simp [strs]
    rw [e1] at ht2
    obtain ⟨out', H3, t'', h3, f3, hrw3, ho3, ha3⟩ := mtext_in K hK d h0i hw hzl hbig ho hlo hwl hws y17 n i hi k10 m (j + 1) fuel H2 t' (by omega) (by omega) (Fr.trans (Frame.trans hfr f1) hf2) ht2
    refine ⟨out', H3, t'', ?_, f3, hrw3, ho3, ha3⟩
    rw [z_loop8]
    simp only [f11_l3, n_lss, decide_eq_true hlt, z_cond, cond_true, hld, z_bst2, z_lload2, h1, z_call, ha]
    rw [show (SV.int .i64 1) = i64 1 from rfl, n_addi _ (by omega)]
    exact h3
theorem mtext_out (K : Nat) (hK : 100000 < K) (d : Nat) {H0 : Heap} {v : SV} {rows : List (List Int)} (hv : IsRows H0 v rows) (hbig : BigOk rows) (hrl : rows.length < 100000) : ∀ (m i fuel : Nat) (H : Heap) (out : SV) (ws : List SV), i + m = rows.length → m < fuel → Frame H0 H → Own H0.size H out ws → ws.length = i → (∀ w ∈ ws, isSlice w) → (∀ (q : Nat) (w : SV) (zs : List Int), ws[q]? = some w → rows[q]? = some zs → Arr H w (strs (zs.map textZ))) →
    ∃ r H', slow.loop4 (f11_l1 slow K (runQ wk tab slow K (d + 3))) fuel out v (i64 rows.length) (i64 i) H = some (r, H') ∧ Frame H0 H' ∧ IsTexts H' r (textRows rows)
  | 0, i, fuel, H, out, ws, him, hf, hfr, ho, hwl, hws, hdone => by
    obtain ⟨fuel, rfl⟩ : ∃ m, fuel = m + 1 := ⟨fuel - 1, by omega⟩
    have hi : i = rows.length := by omega
    refine ⟨out, H, ?_, hfr, ws, ho.arr, by simp [textRows, hwl, hi], fun q w cs hw hc => ?_⟩
    · rw [z_loop4]
      have hlt : ¬ i < rows.length := by omega
      simp only [f11_l1, n_lss, decide_eq_false hlt, z_cond, cond_false, z_rest ho.arr.good]
    · simp only [textRows, List.map_map, List.getElem?_map, Option.map_eq_some_iff] at hc
      obtain ⟨zs, hz, rfl⟩ := hc
      exact hdone q w zs hw hz
  | m + 1, i, fuel, H, out, ws, him, hf, hfr, ho, hwl, hws, hdone => by
    obtain ⟨fuel, rfl⟩ : ∃ m, fuel = m + 1 := ⟨fuel - 1, by omega⟩
    have hlt : i < rows.length := by omega
    obtain ⟨zs, hz⟩ : ∃ zs, rows[i]? = some zs := ⟨_, List.getElem?_eq_getElem hlt⟩
    obtain ⟨hb1, hb2⟩ := hbig zs (List.mem_of_getElem? hz)
    obtain ⟨w, hld, hzs⟩ := (hv.fr hfr).load hz
    obtain ⟨out', H1, t', h1, f1, hrw1, ho1, ha1⟩ := mtext_in K hK d (H0 := H) (Hi := H) (Fr.refl _ _) hzs hb1 hb2 ho hfr.size (by omega) hws v rows.length i (by omega) (slow.loop4 (f11_l1 slow K (runQ wk tab slow K (d + 3))) fuel) zs.length 0 K H (.slice nilSl) (by omega) (by omega) (Fr.refl _ _) (by simpa using Own.nil H.size H)
    have hs' : isSlice t' := Arr.isSlice ha1
    obtain ⟨r, H2, h2, f2, ht⟩ := mtext_out K hK d hv hbig hrl m (i + 1) fuel H1 out' (ws ++ [t']) (by omega) (by omega) (Fr.trans hfr f1) ho1 (by simp [hwl]) (fun q hq => by
      rcases List.mem_append.1 hq with hq | hq
      · exact hws q hq
      · rw [List.mem_singleton.1 hq]; exact hs') (fun q u zs' hu hz' => by
        by_cases hq : q < ws.length
        · rw [List.getElem?_append_left hq] at hu
          exact Arr.keep (hdone q u zs' hu hz') (fun c hc => by
            obtain ⟨s, _, rfl⟩ := List.mem_map.1 hc
            exact id) (X := fun r => inRow out r) (fun r rw hr hg c hc => by rw [Own.cells ho hr hg] at hc; exact hws c hc) hrw1
        · have hq2 : q = ws.length := by have := (List.getElem?_eq_some_iff.1 hu).1; simp at this; omega
          subst hq2
          simp at hu
          subst hu
          rw [hwl, hz] at hz'
          cases hz'
          exact ha1)
    refine ⟨r, H2, ?_, f2, ht⟩
    rw [z_loop4]
    simp only [f11_l1, n_lss, decide_eq_true hlt, z_cond, cond_true, hld, hzs.len]
    rw [show (SV.int .i64 0) = i64 0 from rfl, h1]
    exact h2
theorem mtext_ok (K : Nat) (hK : 100000 < K) (d : Nat) (H : Heap) {v : SV} {rows : List (List Int)} (hv : IsMat H v rows) (hbig : BigOk rows) (hrl : rows.length < 100000) :
    ∃ r H', runQ wk tab slow K (d + 4) 11 [v] H = some (r, H') ∧ Frame H H' ∧ IsTexts H' r (textRows rows) := by
  obtain ⟨w, rfl, hr⟩ := hv
  show ∃ r H', f11 slow K (runQ wk tab slow K (d + 3)) (.agg [w]) H = _ ∧ _
  simp only [f11, z_bbox, z_lfld, z_lld0, hr.len]
  exact mtext_out K hK d hr hbig hrl rows.length 0 K H (.slice nilSl) [] (by omega) (by omega) (Fr.refl _ _) (Own.nil _ _) rfl (fun w hw => by cases hw) (fun q w zs hw => by simp at hw)
end Go.Sh.Of
