/- Contracts of the reference's layer 5: Tell, Identity; of law05: rows, same. -/
import Derived.Test.YtnjdnndlhpdjiaaRefD
set_option linter.unusedVariables false
set_option linter.unusedSimpArgs false
namespace Go.Sh.Of
open Go

theorem big_dec {z : Int} (h : z.natAbs < 2 ^ 4096) : (decLE z.natAbs).length ≤ 4096 := dec_bits h
theorem pow_D {m k : Nat} (h : 16 * m = k) : D ^ m = 2 ^ k := by
  subst h
  rw [Nat.pow_mul]
  rfl
theorem big_rd {n : Nat} (h : n < 2 ^ 4096) : (rdigs n).length ≤ 256 := rdigs_len_le (k := 256) (by
  rw [pow_D (k := 4096) rfl]; exact h)
theorem rtell_in (K : Nat) (hK : 3000000 < K) (d : Nat) {lo0 : Nat} {H0 Hi : Heap} (h0i : Frame H0 Hi) {v : SV} {rows : List (List Int)} (hv : IsRRows lo0 H0 v rows) {i : Nat} {zs : List Int} (hz : rows[i]? = some zs) (hzl : zs.length ≤ 100) (hbig : ∀ z ∈ zs, z.natAbs < 2 ^ 4096) {lo : Nat} {out : SV} {ws : List SV} (ho : Own lo Hi out ws) (hlo : lo ≤ Hi.size) (hwl : ws.length < 100000) (hws : ∀ w ∈ ws, isSlice w) (hi : i < 100000) (k5 : SV → SV → SV → Heap → Rs) : ∀ (m j fuel : Nat) (H : Heap) (t : SV), j + m = zs.length → m < fuel → Frame Hi H → Own Hi.size H t (strs ((zs.take j).map textZ)) →
    ∃ out' H' t', slow.loop5 (f29_l3 slow K (runQ wk tab slow K (d + 6)) k5) fuel v out (i64 i) t (i64 j) H = k5 v out' (i64 (i + 1)) H' ∧ Fr lo Hi H' ∧ (∀ r, ¬ inRow out r → r < Hi.size → H'.get r = Hi.get r) ∧ Own lo H' out' (ws ++ [t']) ∧ Arr H' t' (strs (zs.map textZ))
  | 0, j, fuel, H, t, hjm, hf, hfr, ht => by
    obtain ⟨fuel, rfl⟩ : ∃ m, fuel = m + 1 := ⟨fuel - 1, by omega⟩
    have hj : j = zs.length := by omega
    subst hj
    rw [List.take_length] at ht
    obtain ⟨w, hw, ha⟩ := (hv.fr (Frame.trans h0i hfr)).load hz
    obtain ⟨out', H2, hp, ho2, hf2, hrw⟩ := push1 (ho.fr hfr) (Nat.le_trans hlo hfr.size) (.slice nilSl) (x := t) ht.arr.flat (by_ := 24) (roomy_small (by omega))
    refine ⟨out', H2, t, ?_, (hfr.mono hlo).trans hf2, fun r hn hlt => by rw [hrw r hn (Nat.lt_of_lt_of_le hlt hfr.size), hfr.rows r hlt], ho2, ?_⟩
    · rw [z_loop5]
      have hlt : ¬ zs.length < zs.length := Nat.lt_irrefl _
      simp only [f29_l3, hw, ha.len, n_lss, decide_eq_false hlt, z_cond, cond_false, hp]
      rw [show (SV.int .i64 1) = i64 1 from rfl, n_addi _ (by omega)]
    · exact Arr.keep ht.arr (fun c hc => by
        obtain ⟨s, _, rfl⟩ := List.mem_map.1 hc
        exact id) (X := fun r => inRow out r) (fun r rw hr hg c hc => by rw [Own.cells (ho.fr hfr) hr hg] at hc; exact hws c hc) hrw
  | m + 1, j, fuel, H, t, hjm, hf, hfr, ht => by
    obtain ⟨fuel, rfl⟩ : ∃ m, fuel = m + 1 := ⟨fuel - 1, by omega⟩
    have hlt : j < zs.length := by omega
    obtain ⟨z, hz1⟩ : ∃ z, zs[j]? = some z := ⟨_, List.getElem?_eq_getElem hlt⟩
    have hzb := hbig z (List.mem_of_getElem? hz1)
    obtain ⟨w, hw, ha⟩ := (hv.fr (Frame.trans h0i hfr)).load hz
    obtain ⟨x, hld, hint⟩ := ha.load hz1
    have b1 := big_dec hzb
    have b2 := big_rd hzb
    obtain ⟨H1, h1, f1⟩ := rztext_ok K d H hint hK (by omega) (by omega)
    obtain ⟨t', H2, hp, ht2, hf2, _⟩ := push1 (ht.fr f1) (Nat.le_trans hfr.size f1.size) (.str []) (x := .str (textZ z)) rfl (by_ := 16) (roomy_small (by simp; omega))
    have e1 : strs ((zs.take j).map textZ) ++ [SV.str (textZ z)] = strs ((zs.take (j + 1)).map textZ) := by
      rw [List.take_add_one, hz1]; simp [strs]
    rw [e1] at ht2
    obtain ⟨out', H3, t'', h3, f3, hrw3, ho3, ha3⟩ := rtell_in K hK d h0i hv hz hzl hbig ho hlo hwl hws hi k5 m (j + 1) fuel H2 t' (by omega) (by omega) (Fr.trans (Frame.trans hfr f1) hf2) ht2
    refine ⟨out', H3, t'', ?_, f3, hrw3, ho3, ha3⟩
    rw [z_loop5]
    simp only [f29_l3, hw, ha.len, n_lss, decide_eq_true hlt, z_cond, cond_true, hld, h1, z_call, hp]
    rw [show (SV.int .i64 1) = i64 1 from rfl, n_addi _ (by omega)]
    exact h3
theorem rtell_out (K : Nat) (hK : 3000000 < K) (d : Nat) {lo0 : Nat} {H0 : Heap} {v : SV} {rows : List (List Int)} (hv : IsRRows lo0 H0 v rows) (hbig : BigOk rows) (hrl : rows.length < 100000) : ∀ (m i fuel : Nat) (H : Heap) (out : SV) (ws : List SV), i + m = rows.length → m < fuel → Frame H0 H → Own H0.size H out ws → ws.length = i → (∀ w ∈ ws, isSlice w) → (∀ (q : Nat) (w : SV) (zs : List Int), ws[q]? = some w → rows[q]? = some zs → Arr H w (strs (zs.map textZ))) →
    ∃ r H', slow.loop3 (f29_l1 slow K (runQ wk tab slow K (d + 6))) fuel v out (i64 i) H = some (r, H') ∧ Frame H0 H' ∧ IsTexts H' r (textRows rows)
  | 0, i, fuel, H, out, ws, him, hf, hfr, ho, hwl, hws, hdone => by
    obtain ⟨fuel, rfl⟩ : ∃ m, fuel = m + 1 := ⟨fuel - 1, by omega⟩
    have hi : i = rows.length := by omega
    refine ⟨out, H, ?_, hfr, ws, ho.arr, by simp [textRows, hwl, hi], fun q w cs hw hc => ?_⟩
    · rw [z_loop3]
      have hlt : ¬ i < rows.length := by omega
      simp only [f29_l1, (hv.fr hfr).len, n_lss, decide_eq_false hlt, z_cond, cond_false, z_rest ho.arr.good]
    · simp only [textRows, List.map_map, List.getElem?_map, Option.map_eq_some_iff] at hc
      obtain ⟨zs, hz, rfl⟩ := hc
      exact hdone q w zs hw hz
  | m + 1, i, fuel, H, out, ws, him, hf, hfr, ho, hwl, hws, hdone => by
    obtain ⟨fuel, rfl⟩ : ∃ m, fuel = m + 1 := ⟨fuel - 1, by omega⟩
    have hlt : i < rows.length := by omega
    obtain ⟨zs, hz⟩ : ∃ zs, rows[i]? = some zs := ⟨_, List.getElem?_eq_getElem hlt⟩
    obtain ⟨hb1, hb2⟩ := hbig zs (List.mem_of_getElem? hz)
    obtain ⟨out', H1, t', h1, f1, hrw1, ho1, ha1⟩ := rtell_in K hK d (H0 := H0) (Hi := H) hfr hv hz hb1 hb2 ho hfr.size (by omega) hws (by omega) (slow.loop3 (f29_l1 slow K (runQ wk tab slow K (d + 6))) fuel) zs.length 0 K H (.slice nilSl) (by omega) (by omega) (Fr.refl _ _) (by simpa using Own.nil H.size H)
    have hs' : isSlice t' := Arr.isSlice ha1
    obtain ⟨r, H2, h2, f2, ht⟩ := rtell_out K hK d hv hbig hrl m (i + 1) fuel H1 out' (ws ++ [t']) (by omega) (by omega) (Fr.trans hfr f1) ho1 (by simp [hwl]) (fun q hq => by
      rcases List.mem_append.1 hq with hq | hq
      · exact hws q hq
      · rw [List.mem_singleton.1 hq]; exact hs') (fun q u zs' hu hz' => by
        by_cases hq : q < ws.length
        · rw [List.getElem?_append_left hq] at hu
          exact Arr.keep (hdone q u zs' hu hz') (fun c hc => by
            obtain ⟨s, _, rfl⟩ := List.mem_map.1 hc
            exact id) (X := fun r => inRow out r) (fun r rw hr hg c hc => by rw [Own.cells ho hr hg] at hc; exact hws c hc) hrw1
        · have hq2 : q = ws.length := by have := (List.getElem?_eq_some_iff.1 hu).1; simp at this; omega
          subst hq2
          simp at hu
          subst hu
          rw [hwl, hz] at hz'
          cases hz'
          exact ha1)
    refine ⟨r, H2, ?_, f2, ht⟩
    rw [z_loop3]
    simp only [f29_l1, (hv.fr hfr).len, n_lss, decide_eq_true hlt, z_cond, cond_true]
    rw [show (SV.int .i64 0) = i64 0 from rfl, h1]
    exact h2
theorem rtell_ok (K : Nat) (hK : 3000000 < K) (d : Nat) (H : Heap) {lo0 : Nat} {v : SV} {rows : List (List Int)} (hv : IsRRows lo0 H v rows) (hbig : BigOk rows) (hrl : rows.length < 100000) :
    ∃ r H', runQ wk tab slow K (d + 7) 29 [v] H = some (r, H') ∧ Frame H H' ∧ IsTexts H' r (textRows rows) := by
  exact rtell_out K hK d hv hbig hrl rows.length 0 K H (.slice nilSl) [] (by omega) (by omega) (Fr.refl _ _) (Own.nil _ _) rfl (fun w hw => by cases hw) (fun q w zs hw => by simp at hw)
/-! ### rows, same: two lists of rows of texts that are the same -/
theorem rows_in (C : CallC) (K : Nat) {H : Heap} {v w : SV} {rows : List (List (List UInt8))} (hv : IsTexts H v rows) (hw : IsTexts H w rows) {i : Nat} {r : List (List UInt8)} (hr : rows[i]? = some r) (hi : i < 100000) (hrl : r.length < 100000) (n : Nat) (k11 : SV → SV → SV → SV → Heap → Rs) : ∀ (m j fuel : Nat), j + m = r.length → m < fuel →
    slow.loop7 (f28_l5 slow K C k11) fuel v w (i64 i) (i64 n) (i64 i) (i64 r.length) (i64 j) H = k11 v w (i64 n) (i64 (i + 1)) H
  | 0, j, fuel, hjm, hf => by
    obtain ⟨fuel, rfl⟩ : ∃ m, fuel = m + 1 := ⟨fuel - 1, by omega⟩
    have hlt : ¬ j < r.length := by omega
    rw [z_loop7]
    simp only [f28_l5, n_lss, decide_eq_false hlt, z_cond, cond_false]
    rw [show (SV.int .i64 1) = i64 1 from rfl, n_addi _ (by omega)]
  | m + 1, j, fuel, hjm, hf => by
    obtain ⟨fuel, rfl⟩ : ∃ m, fuel = m + 1 := ⟨fuel - 1, by omega⟩
    have hlt : j < r.length := by omega
    obtain ⟨s, hs⟩ : ∃ s, r[j]? = some s := ⟨_, List.getElem?_eq_getElem hlt⟩
    obtain ⟨a, la, aa⟩ := hv.load (i := i) (cs := strs r) (by simp [hr])
    obtain ⟨b, lb, ab⟩ := hw.load (i := i) (cs := strs r) (by simp [hr])
    rw [z_loop7]
    simp only [f28_l5, n_lss, decide_eq_true hlt, z_cond, cond_true, la, lb, aa.load (strs_get hs), ab.load (strs_get hs), z_sneq, beq_self_eq_true, Bool.not_true, cond_false]
    rw [show (SV.int .i64 1) = i64 1 from rfl, n_addi _ (by omega)]
    exact rows_in C K hv hw hr hi hrl n k11 m (j + 1) fuel (by omega) (by omega)
theorem rows_out (C : CallC) (K : Nat) {H : Heap} {v w : SV} {rows : List (List (List UInt8))} (hv : IsTexts H v rows) (hw : IsTexts H w rows) (hl : rows.length < 100000) (hrl : ∀ r ∈ rows, r.length < K ∧ r.length < 100000) : ∀ (m i fuel : Nat), i + m = rows.length → m < fuel →
    slow.loop4 (f28_l2 slow K C) fuel v w (i64 rows.length) (i64 i) H = some (.bool true, H)
  | 0, i, fuel, him, hf => by
    obtain ⟨fuel, rfl⟩ : ∃ m, fuel = m + 1 := ⟨fuel - 1, by omega⟩
    have hlt : ¬ i < rows.length := by omega
    rw [z_loop4]
    simp only [f28_l2, n_lss, decide_eq_false hlt, z_cond, cond_false]
  | m + 1, i, fuel, him, hf => by
    obtain ⟨fuel, rfl⟩ : ∃ m, fuel = m + 1 := ⟨fuel - 1, by omega⟩
    have hlt : i < rows.length := by omega
    obtain ⟨r, hr⟩ : ∃ r, rows[i]? = some r := ⟨_, List.getElem?_eq_getElem hlt⟩
    have hrm := hrl r (List.mem_of_getElem? hr)
    obtain ⟨a, la, aa⟩ := hv.load (i := i) (cs := strs r) (by simp [hr])
    obtain ⟨b, lb, ab⟩ := hw.load (i := i) (cs := strs r) (by simp [hr])
    have la1 : ∀ k, slow.len a k = k (i64 r.length) := fun k => by rw [aa.len]; simp
    have lb1 : ∀ k, slow.len b k = k (i64 r.length) := fun k => by rw [ab.len]; simp
    have hne : ¬ (r.length ≠ r.length) := fun h => h rfl
    rw [z_loop4]
    simp only [f28_l2, n_lss, decide_eq_true hlt, z_cond, cond_true, la, lb, la1, lb1, n_neq, decide_eq_false hne, cond_false]
    rw [show (SV.int .i64 0) = i64 0 from rfl, rows_in C K hv hw hr (by omega) hrm.2 rows.length _ r.length 0 K (by omega) hrm.1]
    exact rows_out C K hv hw hl hrl m (i + 1) fuel (by omega) (by omega)
theorem rows_ok (K : Nat) (d : Nat) (H : Heap) {v w : SV} {rows : List (List (List UInt8))} (hv : IsTexts H v rows) (hw : IsTexts H w rows) (hK : 100000 < K) (hl : rows.length < 100000) (hrl : ∀ r ∈ rows, r.length < 100000) :
    runQ wk tab slow K (d + 1) 28 [v, w] H = some (.bool true, H) := by
  show f28 slow K (runQ wk tab slow K d) v w H = _
  have l1 : ∀ k, slow.len v k = k (i64 rows.length) := fun k => by rw [hv.len]; simp
  have l2 : ∀ k, slow.len w k = k (i64 rows.length) := fun k => by rw [hw.len]; simp
  have hne : ¬ (rows.length ≠ rows.length) := fun h => h rfl
  simp only [f28, l1, l2, n_neq, decide_eq_false hne, z_cond, cond_false]
  exact rows_out _ K hv hw hl (fun r hr => ⟨by have := hrl r hr; omega, hrl r hr⟩) rows.length 0 K (by omega) (by omega)
/-- same: both are refused with one error, the matrix empty; or both are the same matrix. -/
theorem same_err (K : Nat) (hK : 100000 < K) (d : Nat) (H : Heap) {v w : SV} {e : Int} (he : e ≠ 0) (hv : IsMat H v []) :
    ∃ H', runQ wk tab slow K (d + 5) 9 [v, .int .i64 e, w, .int .i64 e] H = some (.bool true, H') ∧ Frame H H' := by
  obtain ⟨r, H1, h1, f1, t1⟩ := mtext_ok K hK d H hv (fun r hr => by cases hr) (by simp)
  obtain ⟨x, rfl, hx⟩ := hv
  have hl : ∀ k, slow.len r k = k (i64 0) := fun k => by rw [t1.len]; rfl
  refine ⟨H1, ?_, f1⟩
  show f9 slow K (runQ wk tab slow K (d + 4)) _ _ _ _ H = _
  have hne : (e != 0) = true := by rw [bne_iff_ne]; exact he
  simp only [f9, z_bbox, z_neq, hne, z_cond, cond_true, z_eql, beq_self_eq_true, z_guard, z_lload1, h1, z_call, hl, f9_j1, z_rest_bool]
  rfl
theorem same_mat (K : Nat) (hK : 3000000 < K) (d : Nat) (H : Heap) {lo : Nat} {v w : SV} {rows : List (List Int)} (hv : IsMat H v rows) (hw : IsRRows lo H w rows) (hbig : BigOk rows) (hrl : rows.length < 100000) :
    ∃ H', runQ wk tab slow K (d + 8) 9 [v, .int .i64 0, w, .int .i64 0] H = some (.bool true, H') ∧ Frame H H' := by
  obtain ⟨r, H1, h1, f1, t1⟩ := mtext_ok K (by omega) (d + 3) H hv hbig hrl
  obtain ⟨r2, H2, h2, f2, t2⟩ := rtell_ok K hK d H1 (hw.fr f1) hbig hrl
  have h3 := rows_ok K (d + 6) H2 (t1.fr f2) t2 (by omega) (by simpa [textRows] using hrl) (fun q hq => by
    obtain ⟨zs, hz, rfl⟩ := List.mem_map.1 hq
    have := (hbig zs hz).1
    simp; omega)
  obtain ⟨x, rfl, hx⟩ := hv
  refine ⟨H2, ?_, Frame.trans f1 f2⟩
  show f9 slow K (runQ wk tab slow K (d + 7)) _ _ _ _ H = _
  simp only [f9, z_bbox, z_neq, bne_self_eq_false, z_cond, cond_false, z_eql, beq_self_eq_true, z_guard, cond_true, z_lload1, h1, z_call, h2, h3, f9_j3, z_rest_bool]
/-! ### Identity -/
theorem rident_row (n i : Nat) (hi : i < n) : rowOfE (fun i j => if i = j then (1 : Int) else 0) n i = (List.replicate n (0 : Int)).set i 1 := by
  apply List.ext_getElem?
  intro j
  by_cases hj : j < n
  · rw [rowOfE_get hj, List.getElem?_set]
    by_cases h : i = j
    · subst h; simp [hi]
    · simp [h, hj]
  · rw [List.getElem?_eq_none (by rw [rowOfE_len]; omega), List.getElem?_eq_none (by simp; omega)]
theorem IsRZ.zero (H : Heap) : IsRZ H (.agg [.bool false, .slice nilSl]) 0 := ⟨nilSl, rfl, by show Arr H _ (rl (rdigs 0)); rw [rdigs_zero]; exact Arr.nil H⟩
theorem OwnS.ge {n lo : Nat} {H : Heap} {v : SV} {els : List (List SV)} (h : OwnS n lo H v els) {r : Nat} (hr : inRow v r) : lo ≤ r := by
  obtain ⟨_, base, rfl, h⟩ := h
  obtain ⟨s, o, e, h4⟩ := hr
  cases e
  rcases h with ⟨rfl, _⟩ | ⟨r', ver, rfl, h2, h3⟩
  · cases h4
  · cases h4; exact h2
theorem rident_out (K : Nat) (hK : 100000 < K) (d : Nat) {H0 : Heap} {n : Nat} (hn : n < 100000) : ∀ (m i fuel : Nat) (H : Heap) (out : SV) (ws : List SV), i + m = n → m < fuel → Frame H0 H → Own H0.size H out ws → ws.length = i → (∀ w ∈ ws, isSlice w) → (∀ (q : Nat) (w : SV), ws[q]? = some w → IsRZs H w (rowOfE (fun i j => if i = j then 1 else 0) n q) ∧ ∀ r, inRow w r → H0.size ≤ r) →
    ∃ r H', slow.loop3 (f12_l1 slow K (runQ wk tab slow K (d + 2))) fuel (i64 n) out (i64 i) H = some (r, H') ∧ Frame H0 H' ∧ IsRRows H0.size H' r (idRows n)
  | 0, i, fuel, H, out, ws, him, hf, hfr, ho, hwl, hws, hdone => by
    obtain ⟨fuel, rfl⟩ : ∃ m, fuel = m + 1 := ⟨fuel - 1, by omega⟩
    have hi : i = n := by omega
    subst hi
    refine ⟨out, H, ?_, hfr, ws, ho.arr, by simp [idRows, matOfE, hwl], fun r hr => Own.ge ho hr, fun q w zs hw hz => ?_⟩
    · rw [z_loop3]
      have hlt : ¬ i < i := Nat.lt_irrefl i
      simp only [f12_l1, n_lss, decide_eq_false hlt, z_cond, cond_false, z_rest ho.arr.good]
    · have hq : q < i := by have := (List.getElem?_eq_some_iff.1 hw).1; omega
      simp [idRows, matOfE, hq] at hz
      subst hz
      exact hdone q w hw
  | m + 1, i, fuel, H, out, ws, him, hf, hfr, ho, hwl, hws, hdone => by
    obtain ⟨fuel, rfl⟩ : ∃ m, fuel = m + 1 := ⟨fuel - 1, by omega⟩
    have hlt : i < n := by omega
    obtain ⟨row, H1, h1, ho1, f1, hin1, sz1⟩ := z_makeS (H := H) (lo := H.size) (Nat.le_refl _) 2 32 (by decide) [.bool false, .slice nilSl] rfl n (by omega) (roomy_small (by omega)) .i64 .i64
    obtain ⟨q, H2, h2, f2, hq⟩ := rzof_ok K (by omega) d H1 (z := 1) (by omega) (by omega)
    obtain ⟨s, rfl, hsr⟩ := hq
    have hq : IsRZ H2 (.agg [.bool (decide ((1 : Int) < 0)), .slice s]) 1 := ⟨s, rfl, hsr⟩
    have ho2 := ho1.fr f2
    obtain ⟨H3, st, ho3, f3, sz3, hro⟩ := ho2.store (i := i) (by simp; omega) (e := [.bool (decide ((1 : Int) < 0)), .slice s]) rfl .i64
    have hX : ∀ r row', inRow row r → H2.get r = some row' → ∀ c ∈ row'.cells, ∀ n, c ≠ .int .u32 n := fun r row' hr hg c hc m => by
      rw [OwnS.cells ho2 hr hg] at hc
      exact zCells_flat (els := List.replicate n [.bool false, .slice nilSl]) (fun e he => by rw [List.eq_of_mem_replicate he]; exact ⟨_, _, rfl⟩) c hc _ _
    have hrz : IsRZs H3 row (rowOfE (fun i j => if i = j then 1 else 0) n i) := by
      rw [rident_row n i hlt]
      refine ⟨_, ho3.arr, by simp, fun q e z he hz => ?_⟩
      by_cases hqi : q = i
      · subst hqi
        rw [List.getElem?_set_self (by simp; omega)] at he hz
        cases he
        cases hz
        exact hq.keep (X := fun r => inRow row r) hX fun r hr _ => hro r hr
      · rw [List.getElem?_set_ne (Ne.symm hqi)] at he hz
        rw [List.eq_of_mem_replicate (List.mem_of_getElem? he), List.eq_of_mem_replicate (List.mem_of_getElem? hz)]
        exact IsRZ.zero H3
    have f03 : Frame H H3 := Fr.trans (Frame.trans f1 f2) f3
    obtain ⟨out', H4, hp, ho4, f4, hrw⟩ := push1 (ho.fr f03) (Nat.le_trans hfr.size f03.size) (.slice nilSl) (x := row) ho3.arr.flat (by_ := 24) (roomy_small (by omega))
    have hX4 : ∀ r rw, inRow out r → H3.get r = some rw → ∀ c ∈ rw.cells, isSlice c := fun r rw hr hg c hc => by rw [Own.cells (ho.fr f03) hr hg] at hc; exact hws c hc
    obtain ⟨r, H5, h5, f5, ht⟩ := rident_out K hK d hn m (i + 1) fuel H4 out' (ws ++ [row]) (by omega) (by omega) (Fr.trans (Frame.trans hfr f03) f4) ho4 (by simp [hwl]) (fun q hq => by
      rcases List.mem_append.1 hq with hq | hq
      · exact hws q hq
      · rw [List.mem_singleton.1 hq]; exact hrz.slice) (fun q u hu => by
        by_cases hq : q < ws.length
        · rw [List.getElem?_append_left hq] at hu
          exact ⟨((hdone q u hu).1.fr f03).keepS (X := fun r => inRow out r) hX4 hrw, (hdone q u hu).2⟩
        · have hq2 : q = ws.length := by have := (List.getElem?_eq_some_iff.1 hu).1; simp at this; omega
          subst hq2
          simp at hu
          subst hu
          rw [hwl]
          exact ⟨hrz.keepS (X := fun r => inRow out r) hX4 hrw, fun r hr => Nat.le_trans hfr.size (OwnS.ge ho3 hr)⟩)
    refine ⟨r, H5, ?_, f5, ht⟩
    rw [z_loop3]
    simp only [f12_l1, n_lss, decide_eq_true hlt, z_cond, cond_true, h1, h2, z_call, st, hp]
    rw [show (SV.int .i64 1) = i64 1 from rfl, n_addi _ (by omega)]
    exact h5
theorem rident_ok (K : Nat) (hK : 100000 < K) (d : Nat) (H : Heap) {n : Nat} (hn : n < 100000) :
    ∃ r H', runQ wk tab slow K (d + 3) 12 [i64 n] H = some (r, H') ∧ Frame H H' ∧ IsRRows H.size H' r (idRows n) := by
  exact rident_out K hK d hn n 0 K H (.slice nilSl) [] (by omega) (by omega) (Fr.refl _ _) (Own.nil _ _) rfl (fun w hw => by cases hw) (fun q w hw => by simp at hw)
end Go.Sh.Of
