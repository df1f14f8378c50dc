/- Contracts of the package mat: rows and matrices; shaped, made. Contracts of the package mat: Text; words for rows of numbers and of texts. -/
import Derived.Test.YtcecdmacoklhpaaZintA
import Derived.Test.YtcecdmacoklhpaaSh31
set_option linter.unusedVariables false
set_option linter.unusedSimpArgs false
namespace Go.Sh.Of
open Go

/-- A list of whole numbers. -/
def IsZs (H : Heap) (v : SV) (zs : List Int) : Prop := ∃ els, ArrS 2 H v els ∧ els.length = zs.length ∧ ∀ (i : Nat) e z, els[i]? = some e → zs[i]? = some z → IsInt H (.agg e) z
theorem IsZs.fr {H H' : Heap} {v : SV} {zs : List Int} (h : IsZs H v zs) (hf : Frame H H') : IsZs H' v zs := by
  obtain ⟨els, h1, h2, h3⟩ := h
  exact ⟨els, h1.fr hf, h2, fun i e z he hz => (h3 i e z he hz).fr hf⟩
theorem IsZs.len {H : Heap} {v : SV} {zs : List Int} (h : IsZs H v zs) (k : K1) : slow.len v k = k (i64 zs.length) := by
  obtain ⟨els, h1, h2, h3⟩ := h
  rw [h1.len, h2]
theorem IsZs.flat {H : Heap} {v : SV} {zs : List Int} (h : IsZs H v zs) : v.flat = true := by
  obtain ⟨els, h1, h2, h3⟩ := h
  exact h1.flat
theorem IsZs.nil (H : Heap) : IsZs H (.slice nilSl) [] := ⟨[], ArrS.nil 2 H, rfl, fun i e z he => by simp at he⟩
/-- A number of a list is read. -/
theorem IsZs.load {H : Heap} {v : SV} {zs : List Int} (h : IsZs H v zs) {i : Nat} {z : Int} (hz : zs[i]? = some z) : ∃ x y, (∀ kd k, slow.idx 2 v (.int kd i) (fun p => slow.load 2 true p H k) = k (.agg [x, y])) ∧ IsInt H (.agg [x, y]) z := by
  obtain ⟨els, h1, h2, h3⟩ := h
  have hi := (List.getElem?_eq_some_iff.1 hz).1
  obtain ⟨e, he⟩ : ∃ e, els[i]? = some e := ⟨_, List.getElem?_eq_getElem (by omega)⟩
  have h4 := h3 i e z he hz
  obtain ⟨sl, e1, h5, h6⟩ := h4
  cases e1
  exact ⟨_, _, fun kd k => h1.load (by decide) he kd k, sl, rfl, h5, h6⟩
/-- Rows of whole numbers. -/
def IsRows (H : Heap) (v : SV) (rows : List (List Int)) : Prop := ∃ ws, Arr H v ws ∧ ws.length = rows.length ∧ ∀ (i : Nat) w zs, ws[i]? = some w → rows[i]? = some zs → IsZs H w zs
theorem IsRows.fr {H H' : Heap} {v : SV} {rows : List (List Int)} (h : IsRows H v rows) (hf : Frame H H') : IsRows H' v rows := by
  obtain ⟨ws, h1, h2, h3⟩ := h
  exact ⟨ws, h1.fr hf, h2, fun i w zs hw hz => (h3 i w zs hw hz).fr hf⟩
theorem IsRows.len {H : Heap} {v : SV} {rows : List (List Int)} (h : IsRows H v rows) (k : K1) : slow.len v k = k (i64 rows.length) := by
  obtain ⟨ws, h1, h2, h3⟩ := h
  rw [h1.len, h2]
theorem IsRows.flat {H : Heap} {v : SV} {rows : List (List Int)} (h : IsRows H v rows) : v.flat = true := by
  obtain ⟨ws, h1, h2, h3⟩ := h
  exact h1.flat
theorem IsRows.nil (H : Heap) : IsRows H (.slice nilSl) [] := ⟨[], Arr.nil H, rfl, fun i w zs hw => by simp at hw⟩
theorem IsRows.load {H : Heap} {v : SV} {rows : List (List Int)} (h : IsRows H v rows) {i : Nat} {zs : List Int} (hz : rows[i]? = some zs) : ∃ w, (∀ kd k, slow.idx 1 v (.int kd i) (fun p => slow.load 1 false p H k) = k w) ∧ IsZs H w zs := by
  obtain ⟨ws, h1, h2, h3⟩ := h
  have hi := (List.getElem?_eq_some_iff.1 hz).1
  obtain ⟨w, hw⟩ : ∃ w, ws[i]? = some w := ⟨_, List.getElem?_eq_getElem (by omega)⟩
  exact ⟨w, fun kd k => h1.load hw kd k, h3 i w zs hw hz⟩
/-- A matrix. -/
def IsMat (H : Heap) (v : SV) (rows : List (List Int)) : Prop := ∃ w, v = .agg [w] ∧ IsRows H w rows
theorem IsMat.fr {H H' : Heap} {v : SV} {rows : List (List Int)} (h : IsMat H v rows) (hf : Frame H H') : IsMat H' v rows := by
  obtain ⟨w, h1, h2⟩ := h
  exact ⟨w, h1, h2.fr hf⟩
theorem IsMat.nil (H : Heap) : IsMat H (.agg [.slice nilSl]) [] := ⟨_, rfl, IsRows.nil H⟩
/-- A number stays where only rows change in which no machine's number lies. -/
theorem IsInt.keep {H H' : Heap} {v : SV} {z : Int} (h : IsInt H v z) {X : Nat → Prop} (hX : ∀ r row, X r → H.get r = some row → ∀ c ∈ row.cells, ∀ kd n, c ≠ .int kd n) (hro : ∀ r, ¬ X r → r < H.size → H'.get r = H.get r) : IsInt H' v z := by
  obtain ⟨sl, rfl, ha, hf⟩ := h
  refine ⟨sl, rfl, ?_, hf⟩
  obtain ⟨s, rfl, h2, h3⟩ := ha
  refine ⟨s, rfl, h2, ?_⟩
  rcases h3 with h3 | ⟨r, o, row, b1, b2, b3, b4⟩
  · exact .inl h3
  · cases hd : digs z.natAbs with
    | nil => left; rfl
    | cons d ds =>
      right
      rw [hd] at b4
      have h0 := b4 0 (u32 d) rfl
      have hne : ¬ X r := fun e => hX r row e b2 _ (List.mem_of_getElem? h0) _ _ rfl
      exact ⟨r, o, row, b1, by rw [hro r hne (Heap.get_lt b2)]; exact b2, b3, b4⟩
/-- Elements that are whole numbers, ready or not. -/
def zCell (e : List SV) : Prop := ∃ b s, e = [.bool b, .slice s]
theorem IsInt.cell {H : Heap} {e : List SV} {z : Int} (h : IsInt H (.agg e) z) : zCell e := by
  obtain ⟨sl, e1, ⟨s, rfl, _⟩, _⟩ := h
  cases e1
  exact ⟨_, _, rfl⟩
theorem zCells_flat {els : List (List SV)} (h : ∀ e ∈ els, zCell e) : ∀ c ∈ els.flatten, ∀ kd n, c ≠ .int kd n := fun c hc kd n => by
  obtain ⟨e, he, hce⟩ := List.mem_flatten.1 hc
  obtain ⟨b, s, rfl⟩ := h e he
  simp at hce
  rcases hce with rfl | rfl <;> simp
/-- How long a slice is. -/
def slen : SV → Nat
  | .slice s => s.len
  | _ => 0
def isSlice : SV → Prop
  | .slice _ => True
  | _ => False
theorem len_slen {w : SV} (h : isSlice w) (k : K1) : slow.len w k = k (i64 (slen w)) := by
  cases w <;> simp only [isSlice] at h
  rfl
theorem IsZs.slen {H : Heap} {v : SV} {zs : List Int} (h : IsZs H v zs) : isSlice v ∧ slen v = zs.length := by
  obtain ⟨els, ⟨s, rfl, h1, _⟩, h2, h3⟩ := h
  exact ⟨trivial, by rw [← h2, ← h1]; rfl⟩
theorem Arr.slen {H : Heap} {v : SV} {cs : List SV} (h : Arr H v cs) : isSlice v ∧ slen v = cs.length := by
  obtain ⟨s, rfl, h1, _⟩ := h
  exact ⟨trivial, h1⟩
theorem isSlice_not_int {c : SV} (h : isSlice c) (kd : IntKind) (n : Int) : c ≠ .int kd n := fun e => by subst e; exact h
/-- Numbers stay where only rows of slices change. -/
theorem IsZs.keep {H H' : Heap} {v : SV} {zs : List Int} (h : IsZs H v zs) {X : Nat → Prop} (hX : ∀ r row, X r → H.get r = some row → ∀ c ∈ row.cells, isSlice c) (hro : ∀ r, ¬ X r → r < H.size → H'.get r = H.get r) : IsZs H' v zs := by
  obtain ⟨els, h1, h2, h3⟩ := h
  refine ⟨els, ?_, h2, fun i e z he hz => (h3 i e z he hz).keep (fun r row hx hg c hc kd n => isSlice_not_int (hX r row hx hg c hc) kd n) hro⟩
  obtain ⟨s, rfl, g1, g0, g3⟩ := h1
  refine ⟨s, rfl, g1, g0, ?_⟩
  rcases g3 with g3 | ⟨r, o, row, b1, b2, b3, b4⟩
  · exact .inl g3
  · cases els with
    | nil => left; rfl
    | cons e els =>
      right
      obtain ⟨z, hz⟩ : ∃ z, zs[0]? = some z := ⟨_, List.getElem?_eq_getElem (by simp at h2; omega)⟩
      obtain ⟨b, s', rfl⟩ := (h3 0 e z rfl hz).cell
      have h0 := b4 0 _ rfl 0 _ rfl
      have hne : ¬ X r := fun hx => hX r row hx b2 _ (List.mem_of_getElem? h0)
      exact ⟨r, o, row, b1, by rw [hro r hne (Heap.get_lt b2)]; exact b2, b3, b4⟩
theorem Own.cells {lo : Nat} {H : Heap} {v : SV} {cs : List SV} (h : Own lo H v cs) {r : Nat} {row : Row} (hr : inRow v r) (hg : H.get r = some row) : row.cells = cs := by
  obtain ⟨base, rfl, h⟩ := h
  obtain ⟨s, o, e, h4⟩ := hr
  cases e
  rcases h with ⟨rfl, _⟩ | ⟨r', ver, rfl, h2, h3⟩
  · cases h4
  · cases h4; rw [h3] at hg; cases hg; rfl
theorem OwnS.cells {n lo : Nat} {H : Heap} {v : SV} {els : List (List SV)} (h : OwnS n lo H v els) {r : Nat} {row : Row} (hr : inRow v r) (hg : H.get r = some row) : row.cells = els.flatten := by
  obtain ⟨hn, base, rfl, h⟩ := h
  obtain ⟨s, o, e, h4⟩ := hr
  cases e
  rcases h with ⟨rfl, _⟩ | ⟨r', ver, rfl, h2, h3⟩
  · cases h4
  · cases h4; rw [h3] at hg; cases hg; rfl
/-- May rows of these lengths be a matrix? -/
def shapedB (ns : List Nat) : Bool := ns.all fun n => decide (ns.length ≤ 16) && (decide (1 ≤ n) && (decide (n ≤ 16) && decide (some n = ns[0]?)))
theorem nats_get {ns : List Nat} {i n : Nat} (h : ns[i]? = some n) : (ns.map i64)[i]? = some (i64 n) := by simp [h]
theorem shaped_loop (C : CallC) (K : Nat) {H : Heap} {v : SV} {ns : List Nat} (hv : Arr H v (ns.map i64)) (hb : ns.length < 100000) : ∀ (rest : List Nat) (i fuel : Nat), ns.drop i = rest → rest.length < fuel →
    slow.loop4 (f28_l1 slow K C) fuel v v (i64 ns.length) (i64 i) H = some (.bool (rest.all fun n => decide (ns.length ≤ 16) && (decide (1 ≤ n) && (decide (n ≤ 16) && decide (some n = ns[0]?)))), H)
  | [], i, fuel, hd, hf => by
    obtain ⟨fuel, rfl⟩ : ∃ m, fuel = m + 1 := ⟨fuel - 1, by omega⟩
    have hi : ¬ i < ns.length := by have := List.drop_eq_nil_iff.1 hd; omega
    rw [z_loop4]
    simp only [f28_l1, n_lss, decide_eq_false hi, z_cond, cond_false, List.all_nil]
  | n :: rest, i, fuel, hd, hf => by
    obtain ⟨fuel, rfl⟩ : ∃ m, fuel = m + 1 := ⟨fuel - 1, by omega⟩
    have hn : ns[i]? = some n := by
      have := congrArg List.head? hd
      rwa [List.head?_drop, List.head?_cons] at this
    have hi : i < ns.length := (List.getElem?_eq_some_iff.1 hn).1
    have hd' : ns.drop (i + 1) = rest := by rw [← List.drop_drop, hd]; rfl
    obtain ⟨m, hm⟩ : ∃ m, ns[0]? = some m := ⟨_, List.getElem?_eq_getElem (by omega)⟩
    have h0 : ∀ k, slow.idx 1 v (.int .i64 0) (fun p => slow.load 1 false p H k) = k (i64 m) := fun k => hv.load (i := 0) (nats_get hm) .i64 k
    have hlen : ∀ k, slow.len v k = k (i64 ns.length) := fun k => by rw [hv.len]; simp
    rw [z_loop4]
    simp only [f28_l1, n_lss, decide_eq_true hi, z_cond, cond_true, hv.load (nats_get hn), hlen]
    rw [show (SV.int .i64 16) = i64 16 from rfl, n_gtr, z_guard]
    rw [List.all_cons]
    by_cases h1 : ns.length > 16
    · rw [decide_eq_true h1, cond_true, decide_eq_false (show ¬ ns.length ≤ 16 by omega)]
      simp only [f28_j3, z_cond, cond_true, Bool.false_and]
    · rw [decide_eq_false h1, cond_false, decide_eq_true (show ns.length ≤ 16 by omega), show (SV.int .i64 1) = i64 1 from rfl, n_lss, z_guard]
      by_cases h2 : n < 1
      · rw [decide_eq_true h2, cond_true, decide_eq_false (show ¬ 1 ≤ n by omega)]
        simp only [f28_j3, z_cond, cond_true, Bool.false_and, Bool.and_false]
      · rw [decide_eq_false h2, cond_false, decide_eq_true (show 1 ≤ n by omega), n_gtr, z_guard]
        by_cases h3 : n > 16
        · rw [decide_eq_true h3, cond_true, decide_eq_false (show ¬ n ≤ 16 by omega)]
          simp only [f28_j3, z_cond, cond_true, Bool.false_and, Bool.and_false]
        · rw [decide_eq_false h3, cond_false, decide_eq_true (show n ≤ 16 by omega), h0, n_neq]
          by_cases h4 : n ≠ m
          · have h5 : ¬ (some n = ns[0]?) := by rw [hm]; intro e; exact h4 (Option.some.inj e)
            rw [decide_eq_true h4, decide_eq_false h5]
            simp only [f28_j3, z_cond, cond_true, Bool.false_and, Bool.and_false]
          · have h5 : some n = ns[0]? := by rw [hm, Decidable.not_not.1 h4]
            rw [decide_eq_false h4, decide_eq_true h5]
            simp only [f28_j3, z_cond, cond_false, Bool.true_and]
            rw [show (SV.int .i64 1) = i64 1 from rfl, n_addi _ (by omega)]
            have ih := shaped_loop C K hv hb rest (i + 1) fuel hd' (by simp at hf; omega)
            rw [decide_eq_true (show ns.length ≤ 16 by omega)] at ih
            simp only [Bool.true_and] at ih
            exact ih
theorem shaped_ok (K : Nat) (d : Nat) (H : Heap) {v : SV} {ns : List Nat} (hv : Arr H v (ns.map i64)) (hb : ns.length < 100000) (hK : 100000 < K) : runQ wk tab slow K (d + 1) 28 [v] H = some (.bool (shapedB ns), H) := by
  show f28 slow K (runQ wk tab slow K d) v H = _
  simp only [f28, hv.len]
  rw [show (ns.map i64).length = ns.length by simp]
  exact shaped_loop _ K hv hb ns 0 K rfl (by omega)
/-! ### made -/
def rowOfE (E : Nat → Nat → Int) (cols i : Nat) : List Int := (List.range cols).map (E i)
def matOfE (E : Nat → Nat → Int) (rows cols : Nat) : List (List Int) := (List.range rows).map (rowOfE E cols)
theorem rowOfE_get {E : Nat → Nat → Int} {cols i j : Nat} (h : j < cols) : (rowOfE E cols i)[j]? = some (E i j) := by simp [rowOfE, h]
theorem rowOfE_len (E : Nat → Nat → Int) (cols i : Nat) : (rowOfE E cols i).length = cols := by simp [rowOfE]
/-- What a function that tells entries does: g, with what it has captured; from a heap on. -/
def EntryOk (C : CallC) (g : Nat) (caps : List SV) (H0 : Heap) (rows cols : Nat) (E : Nat → Nat → Int) : Prop :=
  ∀ i j H, i < rows → j < cols → Frame H0 H → ∃ r H', C g ([] ++ ([i64 i, i64 j] ++ caps)) H = some (r, H') ∧ Frame H H' ∧ IsInt H' r (E i j)
theorem Own.geA {lo : Nat} {H : Heap} {v : SV} {cs : List SV} (h : Own lo H v cs) {r : Nat} (hr : inRow v r) : lo ≤ r := by
  obtain ⟨base, rfl, h⟩ := h
  obtain ⟨s, o, e, h4⟩ := hr
  cases e
  rcases h with ⟨rfl, _⟩ | ⟨r', ver, rfl, h2, h3⟩
  · cases h4
  · cases h4; exact h2
theorem OwnS.geA {n lo : Nat} {H : Heap} {v : SV} {els : List (List SV)} (h : OwnS n lo H v els) {r : Nat} (hr : inRow v r) : lo ≤ r := by
  obtain ⟨_, base, rfl, h⟩ := h
  obtain ⟨s, o, e, h4⟩ := hr
  cases e
  rcases h with ⟨rfl, _⟩ | ⟨r', ver, rfl, h2, h3⟩
  · cases h4
  · cases h4; exact h2
/-- A matrix of which no row of cells lies below lo. -/
def IsMatF (lo : Nat) (H : Heap) (v : SV) (rows : List (List Int)) : Prop := ∃ w, v = .agg [w] ∧ (∀ r, inRow w r → lo ≤ r) ∧ ∃ ws, Arr H w ws ∧ ws.length = rows.length ∧ ∀ (i : Nat) w zs, ws[i]? = some w → rows[i]? = some zs → IsZs H w zs ∧ ∀ r, inRow w r → lo ≤ r
theorem IsMatF.mat {lo : Nat} {H : Heap} {v : SV} {rows : List (List Int)} (h : IsMatF lo H v rows) : IsMat H v rows := by
  obtain ⟨w, e, _, ws, h1, h2, h3⟩ := h
  exact ⟨w, e, ws, h1, h2, fun i w zs hw hz => (h3 i w zs hw hz).1⟩
theorem IsMatF.fr {lo : Nat} {H H' : Heap} {v : SV} {rows : List (List Int)} (h : IsMatF lo H v rows) (hf : Frame H H') : IsMatF lo H' v rows := by
  obtain ⟨w, e, h0, ws, h1, h2, h3⟩ := h
  exact ⟨w, e, h0, ws, h1.fr hf, h2, fun i w zs hw hz => ⟨(h3 i w zs hw hz).1.fr hf, (h3 i w zs hw hz).2⟩⟩
theorem IsMatF.mono {lo lo' : Nat} {H : Heap} {v : SV} {rows : List (List Int)} (h : IsMatF lo H v rows) (hl : lo' ≤ lo) : IsMatF lo' H v rows := by
  obtain ⟨w, e, h0, ws, h1, h2, h3⟩ := h
  exact ⟨w, e, fun r hr => Nat.le_trans hl (h0 r hr), ws, h1, h2, fun i w zs hw hz => ⟨(h3 i w zs hw hz).1, fun r hr => Nat.le_trans hl ((h3 i w zs hw hz).2 r hr)⟩⟩
theorem IsMatF.nil (lo : Nat) (H : Heap) : IsMatF lo H (.agg [.slice nilSl]) [] := ⟨_, rfl, (fun r hr => by obtain ⟨s, o, e, h⟩ := hr; cases e; cases h), [], Arr.nil H, rfl, fun i w zs hw => by simp at hw⟩
theorem made_in (C : CallC) (K : Nat) {g : Nat} {caps : List SV} {H0 Hi : Heap} {rows cols : Nat} (hcols : cols < 100000) (hrows : rows < 100000) {E : Nat → Nat → Int} (hE : EntryOk C g caps H0 rows cols E) (h0i : Frame H0 Hi) {lo : Nat} {l : SV} {ws : List SV} (hl : Own lo Hi l ws) (hlo : lo ≤ Hi.size) (hwl : ws.length < 100000) (hws : ∀ w ∈ ws, isSlice w) {i : Nat} (hi : i < rows) (bx : SV) (k8 : SV → SV → SV → SV → SV → SV → Heap → Rs) {row : SV} : ∀ (m j fuel : Nat) (H : Heap) (els : List (List SV)), j + m = cols → m < fuel → Frame Hi H → OwnS 2 Hi.size H row els → els.length = cols → (∀ e ∈ els, zCell e) → (∀ q e, q < j → els[q]? = some e → IsInt H (.agg e) (E i q)) →
    ∃ l' H', slow.loop10 (f30_l3 slow K C k8) fuel (i64 cols) (.fn g [] caps) bx l (i64 i) row (i64 rows) (i64 i) (i64 cols) (i64 j) H = k8 (i64 cols) (.fn g [] caps) bx l' (i64 rows) (i64 (i + 1)) H' ∧ Fr lo Hi H' ∧ (∀ r, ¬ inRow l r → r < Hi.size → H'.get r = Hi.get r) ∧ ∃ w, Own lo H' l' (ws ++ [w]) ∧ IsZs H' w (rowOfE E cols i) ∧ isSlice w ∧ w = row
  | 0, j, fuel, H, els, hjm, hf, hfr, ho, hel, hcell, hdone => by
    obtain ⟨fuel, rfl⟩ : ∃ m, fuel = m + 1 := ⟨fuel - 1, by omega⟩
    have hj : j = cols := by omega
    subst hj
    have hz : IsZs H row (rowOfE E j i) := ⟨els, ho.arr, by rw [rowOfE_len, hel], fun q e z he hz => by
      have hq : q < j := by have := (List.getElem?_eq_some_iff.1 he).1; omega
      rw [rowOfE_get hq] at hz
      cases hz
      exact hdone q e hq he⟩
    obtain ⟨u, H1, hu, hou, hfu, hru, hsz⟩ := z_lay1 (H := H) (lo := H.size) (Nat.le_refl _) (.slice nilSl) (x := row) hz.flat
    have hl1 := (hl.fr hfr).fr hfu
    obtain ⟨l', H2, ha, ho2, hf2, hrw, hin, _⟩ := hl1.append (Nat.le_trans hlo (Nat.le_trans hfr.size hfu.size)) hou.arr (by_ := 24) (roomy_small (by simp; omega))
    refine ⟨l', H2, ?_, ?_, ?_, row, ho2, ?_, hz.slen.1, rfl⟩
    · rw [z_loop10]
      have hlt : ¬ j < j := Nat.lt_irrefl j
      simp only [f30_l3, n_lss, decide_eq_false hlt, z_cond, cond_false, hu, ha]
      rw [show (SV.int .i64 1) = i64 1 from rfl, n_addi _ (by omega)]
    · exact ((hfr.mono hlo).trans (hfu.mono (Nat.le_trans hlo hfr.size))).trans hf2
    · intro r hr hlt
      have hrH : r < H.size := Nat.lt_of_lt_of_le hlt hfr.size
      rw [hrw r hr (Nat.lt_of_lt_of_le hrH hfu.size), hfu.rows r hrH, hfr.rows r hlt]
    · refine (hz.fr hfu).keep (X := fun r => inRow l r) (fun r rw hr hg c hc => ?_) hrw
      have := Own.cells hl1 hr hg
      rw [this] at hc
      exact hws c hc
  | m + 1, j, fuel, H, els, hjm, hf, hfr, ho, hel, hcell, hdone => by
    obtain ⟨fuel, rfl⟩ : ∃ m, fuel = m + 1 := ⟨fuel - 1, by omega⟩
    have hlt : j < cols := by omega
    obtain ⟨r, H1, h1, f1, hr⟩ := hE i j H hi hlt (Frame.trans h0i hfr)
    obtain ⟨sl, rfl, hsl, hslf⟩ := hr
    have hint : IsInt H1 (.agg [.bool (decide (E i j < 0)), sl]) (E i j) := ⟨sl, rfl, hsl, hslf⟩
    have ho1 := ho.fr f1
    obtain ⟨H2, st, ho2, f2, sz2, hro⟩ := ho1.store (i := j) (by omega) (e := [.bool (decide (E i j < 0)), sl]) rfl .i64
    have hX : ∀ r row', inRow row r → H1.get r = some row' → ∀ c ∈ row'.cells, ∀ kd n, c ≠ .int kd n := fun r row' hr hg => by
      rw [OwnS.cells ho1 hr hg]
      exact zCells_flat hcell
    obtain ⟨l', H3, h3, h4, h5, h6⟩ := made_in C K hcols hrows hE h0i hl hlo hwl hws hi bx k8 m (j + 1) fuel H2 (els.set j [.bool (decide (E i j < 0)), sl]) (by omega) (by omega) (Fr.trans (Frame.trans hfr f1) f2) ho2 (by simpa using hel) (fun e he => by
      rcases List.mem_or_eq_of_mem_set he with he | rfl
      · exact hcell e he
      · exact hint.cell) (fun q e hq he => by
        by_cases hqj : q = j
        · subst hqj
          rw [List.getElem?_set_self (by omega)] at he
          cases he
          exact hint.keep hX fun r hr _ => hro r hr
        · rw [List.getElem?_set_ne (Ne.symm hqj)] at he
          exact ((hdone q e (by omega) he).fr f1).keep hX fun r hr _ => hro r hr)
    refine ⟨l', H3, ?_, h4, h5, h6⟩
    rw [z_loop10]
    simp only [f30_l3, n_lss, decide_eq_true hlt, z_cond, cond_true, z_callv, h1, z_call, st]
    rw [show (SV.int .i64 1) = i64 1 from rfl, n_addi _ (by omega)]
    exact h3
theorem made_out (C : CallC) (K : Nat) (hK : 100000 < K) {g : Nat} {caps : List SV} {H0 : Heap} {rows cols : Nat} (hcols : cols < 100000) (hrows : rows < 100000) {E : Nat → Nat → Int} (hE : EntryOk C g caps H0 rows cols E) : ∀ (m i fuel : Nat) (H : Heap) (l : SV) (ws : List SV), i + m = rows → m < fuel → Frame H0 H → Own H0.size H l ws → ws.length = i → (∀ w ∈ ws, isSlice w) → (∀ q w, ws[q]? = some w → IsZs H w (rowOfE E cols q) ∧ ∀ r, inRow w r → H0.size ≤ r) →
    ∃ r H', slow.loop6 (f30_l1 slow K C) fuel (i64 cols) (.fn g [] caps) (.box [.slice nilSl]) l (i64 rows) (i64 i) H = some (r, H') ∧ Frame H0 H' ∧ IsMatF H0.size H' r (matOfE E rows cols)
  | 0, i, fuel, H, l, ws, him, hf, hfr, ho, hwl, hws, hdone => by
    obtain ⟨fuel, rfl⟩ : ∃ m, fuel = m + 1 := ⟨fuel - 1, by omega⟩
    have hi : i = rows := by omega
    subst hi
    refine ⟨.agg [l], H, ?_, hfr, l, rfl, fun r hr => Own.geA ho hr, ws, ho.arr, by simp [matOfE, hwl], fun q w zs hw hz => ?_⟩
    · rw [z_loop6]
      have hlt : ¬ i < i := Nat.lt_irrefl i
      simp only [f30_l1, n_lss, decide_eq_false hlt, z_cond, cond_false, z_build1 _ _ ho.arr.flat, z_bst1, z_resc1]
    · have hq : q < i := by have := (List.getElem?_eq_some_iff.1 hw).1; omega
      simp [matOfE, hq] at hz
      subst hz
      exact hdone q w hw
  | m + 1, i, fuel, H, l, ws, him, hf, hfr, ho, hwl, hws, hdone => by
    obtain ⟨fuel, rfl⟩ : ∃ m, fuel = m + 1 := ⟨fuel - 1, by omega⟩
    have hlt : i < rows := by omega
    obtain ⟨row, H1, h1, ho1, f1, hin1, sz1⟩ := z_makeS (H := H) (lo := H.size) (Nat.le_refl _) 2 32 (by decide) [.bool false, .slice nilSl] rfl cols (by omega) (roomy_small (by omega)) .i64 .i64
    obtain ⟨l', H2, h2, f2, hro2, w, ho2, hz2, hs2, hwr⟩ := made_in C K hcols hrows hE hfr (Hi := H) ho hfr.size (by omega) hws hlt (.box [.slice nilSl]) (slow.loop6 (f30_l1 slow K C) fuel) (row := row) cols 0 K H1 (List.replicate cols [.bool false, .slice nilSl]) (by omega) (by omega) f1 ho1 (by simp) (fun e he => by rw [List.eq_of_mem_replicate he]; exact ⟨_, _, rfl⟩) (fun q e hq => by omega)
    obtain ⟨r, H3, h3, f3, hm⟩ := made_out C K hK hcols hrows hE m (i + 1) fuel H2 l' (ws ++ [w]) (by omega) (by omega) (Fr.trans hfr f2) ho2 (by simp [hwl]) (fun v hv => by
      rcases List.mem_append.1 hv with hv | hv
      · exact hws v hv
      · rw [List.mem_singleton.1 hv]; exact hs2) (fun q v hv => by
        by_cases hq : q < ws.length
        · rw [List.getElem?_append_left hq] at hv
          exact ⟨(hdone q v hv).1.keep (X := fun r => inRow l r) (fun r rw hr hg c hc => by rw [Own.cells ho hr hg] at hc; exact hws c hc) hro2, (hdone q v hv).2⟩
        · have hq2 : q = ws.length := by have := (List.getElem?_eq_some_iff.1 hv).1; simp at this; omega
          subst hq2
          simp at hv
          subst hv
          rw [hwl]; exact ⟨hz2, fun r hr => Nat.le_trans hfr.size (OwnS.geA ho1 (hwr ▸ hr))⟩)
    refine ⟨r, H3, ?_, f3, hm⟩
    rw [z_loop6]
    simp only [f30_l1, n_lss, decide_eq_true hlt, z_cond, cond_true, h1]
    rw [ho1.arr.len, List.length_replicate, show (SV.int .i64 0) = i64 0 from rfl, h2]
    exact h3
/-- made: rows and columns of entries that a function tells. -/
theorem made_ok (K : Nat) (hK : 100000 < K) (d : Nat) {g : Nat} {caps : List SV} {H0 : Heap} {rows cols : Nat} (hcols : cols < 100000) (hrows : rows < 100000) {E : Nat → Nat → Int} (hE : EntryOk (runQ wk tab slow K d) g caps H0 rows cols E) :
    ∃ r H', runQ wk tab slow K (d + 1) 30 [i64 rows, i64 cols, .fn g [] caps] H0 = some (r, H') ∧ Frame H0 H' ∧ IsMatF H0.size H' r (matOfE E rows cols) := by
  show ∃ r H', f30 slow K (runQ wk tab slow K d) (i64 rows) (i64 cols) (.fn g [] caps) H0 = _ ∧ _
  exact made_out _ K hK hcols hrows hE rows 0 K H0 (.slice nilSl) [] (by omega) (by omega) (Fr.refl _ _) (Own.nil _ _) rfl (fun w hw => by cases hw) (fun q w hw => by simp at hw)
end Go.Sh.Of
namespace Go.Sh.Of
open Go

/-- One more behind a list of one's own. -/
theorem push1 {lo : Nat} {H : Heap} {t : SV} {cs : List SV} (h : Own lo H t cs) (hl : lo ≤ H.size) (z : SV) {x : SV} (hx : x.flat = true) {by_ : Nat} (hr : roomy (cs.length + 1) by_ = true) :
    ∃ t' H', (∀ k, slow.hbuild 1 [z] [(0, 1)] [x] H (fun u H1 => slow.append 1 by_ t u H1 k) = k t' H') ∧ Own lo H' t' (cs ++ [x]) ∧ Fr lo H H' ∧ (∀ r, ¬ inRow t r → r < H.size → H'.get r = H.get r) := by
  obtain ⟨u, H1, hu, hou, hfu, hru, hsz⟩ := z_lay1 (H := H) (lo := H.size) (Nat.le_refl _) z hx
  obtain ⟨t', H2, ha, ho2, hf2, hrw, _, _⟩ := (h.fr hfu).append (Nat.le_trans hl hfu.size) hou.arr (by_ := by_) hr
  exact ⟨t', H2, fun k => by rw [hu, ha], ho2, (hfu.mono hl).trans hf2, fun r hn hlt => by rw [hrw r hn (Nat.lt_of_lt_of_le hlt hfu.size), hfu.rows r hlt]⟩
/-- One struct more. -/
theorem pushS {n lo : Nat} (hn : 0 < n) (hn' : n ≤ 1000) {H : Heap} {t : SV} {els : List (List SV)} (h : OwnS n lo H t els) (hl : lo ≤ H.size) (z : List SV) (hz : z.length = n) {e : List SV} (he : e.length = n) {by_ : Nat} (hr : roomy (els.length + 1) by_ = true) :
    ∃ t' H', (∀ k, slow.hbuild n z [(0, n)] [.agg e] H (fun u H1 => slow.append n by_ t u H1 k) = k t' H') ∧ OwnS n lo H' t' (els ++ [e]) ∧ Fr lo H H' ∧ (∀ r, ¬ inRow t r → r < H.size → H'.get r = H.get r) := by
  obtain ⟨u, H1, hu, hou, hfu, hru, hsz⟩ := z_layS (H := H) (lo := H.size) (Nat.le_refl _) n hn hn' z hz he
  obtain ⟨t', H2, ha, ho2, hf2, hrw, _⟩ := OwnS.append hn (h.fr hfu) (Nat.le_trans hl hfu.size) hou.arr (by_ := by_) hr
  exact ⟨t', H2, fun k => by rw [hu, ha], ho2, (hfu.mono hl).trans hf2, fun r hn hlt => by rw [hrw r hn (Nat.lt_of_lt_of_le hlt hfu.size), hfu.rows r hlt]⟩
/-- Rows of cells. -/
def IsRowsC (H : Heap) (v : SV) (rows : List (List SV)) : Prop := ∃ ws, Arr H v ws ∧ ws.length = rows.length ∧ ∀ (i : Nat) w cs, ws[i]? = some w → rows[i]? = some cs → Arr H w cs
theorem IsRowsC.fr {H H' : Heap} {v : SV} {rows : List (List SV)} (h : IsRowsC H v rows) (hf : Frame H H') : IsRowsC H' v rows := by
  obtain ⟨ws, h1, h2, h3⟩ := h
  exact ⟨ws, h1.fr hf, h2, fun i w zs hw hz => (h3 i w zs hw hz).fr hf⟩
theorem IsRowsC.len {H : Heap} {v : SV} {rows : List (List SV)} (h : IsRowsC H v rows) (k : K1) : slow.len v k = k (i64 rows.length) := by
  obtain ⟨ws, h1, h2, h3⟩ := h
  rw [h1.len, h2]
theorem IsRowsC.load {H : Heap} {v : SV} {rows : List (List SV)} (h : IsRowsC H v rows) {i : Nat} {cs : List SV} (hz : rows[i]? = some cs) : ∃ w, (∀ kd k, slow.idx 1 v (.int kd i) (fun p => slow.load 1 false p H k) = k w) ∧ Arr H w cs := by
  obtain ⟨ws, h1, h2, h3⟩ := h
  have hi := (List.getElem?_eq_some_iff.1 hz).1
  obtain ⟨w, hw⟩ : ∃ w, ws[i]? = some w := ⟨_, List.getElem?_eq_getElem (by omega)⟩
  exact ⟨w, fun kd k => h1.load hw kd k, h3 i w cs hw hz⟩
theorem IsRowsC.flat {H : Heap} {v : SV} {rows : List (List SV)} (h : IsRowsC H v rows) : v.flat = true := by
  obtain ⟨ws, h1, h2, h3⟩ := h
  exact h1.flat
theorem IsRowsC.good {H : Heap} {v : SV} {rows : List (List SV)} (h : IsRowsC H v rows) : v.good = true := by
  obtain ⟨ws, h1, h2, h3⟩ := h
  exact h1.good
/-- Rows of numbers of the machine. -/
abbrev IsInts2 (H : Heap) (v : SV) (rows : List (List Int)) : Prop := IsRowsC H v (rows.map (intsL .i64))
abbrev strs (l : List (List UInt8)) : List SV := l.map .str
/-- Rows of texts. -/
abbrev IsTexts (H : Heap) (v : SV) (rows : List (List (List UInt8))) : Prop := IsRowsC H v (rows.map strs)
theorem strs_get {l : List (List UInt8)} {i : Nat} {s : List UInt8} (h : l[i]? = some s) : (strs l)[i]? = some (.str s) := by simp [h]
/-- Cells that are no slices stay where only rows of slices change. -/
theorem Arr.keep {H H' : Heap} {v : SV} {cs : List SV} (h : Arr H v cs) (hcs : ∀ c ∈ cs, ¬ isSlice c) {X : Nat → Prop} (hX : ∀ r row, X r → H.get r = some row → ∀ c ∈ row.cells, isSlice c) (hro : ∀ r, ¬ X r → r < H.size → H'.get r = H.get r) : Arr H' v cs := by
  obtain ⟨s, rfl, h2, h3⟩ := h
  refine ⟨s, rfl, h2, ?_⟩
  rcases h3 with h3 | ⟨r, o, row, b1, b2, b3, b4⟩
  · exact .inl h3
  · cases cs with
    | nil => left; rfl
    | cons c cs =>
      right
      have h0 := b4 0 c rfl
      have hne : ¬ X r := fun hx => hcs c (by simp) (hX r row hx b2 _ (List.mem_of_getElem? h0))
      exact ⟨r, o, row, b1, by rw [hro r hne (Heap.get_lt b2)]; exact b2, b3, b4⟩
theorem Arr.isSlice {H : Heap} {v : SV} {cs : List SV} (h : Arr H v cs) : isSlice v := (Arr.slen h).1
/-! ### Text -/
def textRows (rows : List (List Int)) : List (List (List UInt8)) := rows.map fun r => r.map textZ
def BigOk (rows : List (List Int)) : Prop := ∀ r ∈ rows, r.length ≤ 100 ∧ ∀ z ∈ r, z.natAbs < 2 ^ 4096
theorem mtext_in (K : Nat) (hK : 100000 < K) (d : Nat) {H0 Hi : Heap} (h0i : Frame H0 Hi) {w : SV} {zs : List Int} (hw : IsZs H0 w zs) (hzl : zs.length ≤ 100) (hbig : ∀ z ∈ zs, z.natAbs < 2 ^ 4096) {lo : Nat} {out : SV} {ws : List SV} (ho : Own lo Hi out ws) (hlo : lo ≤ Hi.size) (hwl : ws.length < 100000) (hws : ∀ w ∈ ws, isSlice w) (y17 : SV) (n i : Nat) (hi : i < 100000) (k10 : SV → SV → SV → SV → Heap → Rs) : ∀ (m j fuel : Nat) (H : Heap) (t : SV), j + m = zs.length → m < fuel → Frame Hi H → Own Hi.size H t (strs ((zs.take j).map textZ)) →
    ∃ out' H' t', slow.loop8 (f9_l3 slow K (runQ wk tab slow K (d + 3)) k10) fuel out t y17 (i64 n) (i64 i) w (i64 zs.length) (i64 j) H = k10 out' y17 (i64 n) (i64 (i + 1)) H' ∧ Fr lo Hi H' ∧ (∀ r, ¬ inRow out r → r < Hi.size → H'.get r = Hi.get r) ∧ Own lo H' out' (ws ++ [t']) ∧ Arr H' t' (strs (zs.map textZ))
  | 0, j, fuel, H, t, hjm, hf, hfr, ht => by
    obtain ⟨fuel, rfl⟩ : ∃ m, fuel = m + 1 := ⟨fuel - 1, by omega⟩
    have hj : j = zs.length := by omega
    subst hj
    rw [List.take_length] at ht
    obtain ⟨out', H2, ha, ho2, hf2, hrw⟩ := push1 (ho.fr hfr) (Nat.le_trans hlo hfr.size) (.slice nilSl) (x := t) ht.arr.flat (by_ := 24) (roomy_small (by omega))
    refine ⟨out', H2, t, ?_, (hfr.mono hlo).trans hf2, fun r hn hlt => by rw [hrw r hn (Nat.lt_of_lt_of_le hlt hfr.size), hfr.rows r hlt], ho2, ?_⟩
    · rw [z_loop8]
      have hlt : ¬ zs.length < zs.length := Nat.lt_irrefl _
      simp only [f9_l3, n_lss, decide_eq_false hlt, z_cond, cond_false, ha]
      rw [show (SV.int .i64 1) = i64 1 from rfl, n_addi _ (by omega)]
    · exact Arr.keep ht.arr (fun c hc => by
        obtain ⟨s, _, rfl⟩ := List.mem_map.1 hc
        exact id) (X := fun r => inRow out r) (fun r rw hr hg c hc => by rw [Own.cells (ho.fr hfr) hr hg] at hc; exact hws c hc) hrw
  | m + 1, j, fuel, H, t, hjm, hf, hfr, ht => by
    obtain ⟨fuel, rfl⟩ : ∃ m, fuel = m + 1 := ⟨fuel - 1, by omega⟩
    have hlt : j < zs.length := by omega
    obtain ⟨z, hz⟩ : ∃ z, zs[j]? = some z := ⟨_, List.getElem?_eq_getElem hlt⟩
    have hwH := hw.fr (Frame.trans h0i hfr)
    obtain ⟨x, y, hld, hint⟩ := hwH.load hz
    obtain ⟨H1, h1, f1⟩ := ztext_ok K (by omega) d H hint (hbig z (List.mem_of_getElem? hz))
    obtain ⟨t', H2, ha, ht2, hf2, _⟩ := push1 (ht.fr f1) (Nat.le_trans hfr.size f1.size) (.str []) (x := .str (textZ z)) rfl (by_ := 16) (roomy_small (by simp; omega))
    have e1 : strs ((zs.take j).map textZ) ++ [SV.str (textZ z)] = strs ((zs.take (j + 1)).map textZ) := by
      rw [List.take_add_one, hz]; simp [strs]
    rw [e1] at ht2
    obtain ⟨out', H3, t'', h3, f3, hrw3, ho3, ha3⟩ := mtext_in K hK d h0i hw hzl hbig ho hlo hwl hws y17 n i hi k10 m (j + 1) fuel H2 t' (by omega) (by omega) (Fr.trans (Frame.trans hfr f1) hf2) ht2
    refine ⟨out', H3, t'', ?_, f3, hrw3, ho3, ha3⟩
    rw [z_loop8]
    simp only [f9_l3, n_lss, decide_eq_true hlt, z_cond, cond_true, hld, z_bst2, z_lload2, h1, z_call, ha]
    rw [show (SV.int .i64 1) = i64 1 from rfl, n_addi _ (by omega)]
    exact h3
theorem mtext_out (K : Nat) (hK : 100000 < K) (d : Nat) {H0 : Heap} {v : SV} {rows : List (List Int)} (hv : IsRows H0 v rows) (hbig : BigOk rows) (hrl : rows.length < 100000) : ∀ (m i fuel : Nat) (H : Heap) (out : SV) (ws : List SV), i + m = rows.length → m < fuel → Frame H0 H → Own H0.size H out ws → ws.length = i → (∀ w ∈ ws, isSlice w) → (∀ (q : Nat) (w : SV) (zs : List Int), ws[q]? = some w → rows[q]? = some zs → Arr H w (strs (zs.map textZ))) →
    ∃ r H', slow.loop4 (f9_l1 slow K (runQ wk tab slow K (d + 3))) fuel out v (i64 rows.length) (i64 i) H = some (r, H') ∧ Frame H0 H' ∧ IsTexts H' r (textRows rows)
  | 0, i, fuel, H, out, ws, him, hf, hfr, ho, hwl, hws, hdone => by
    obtain ⟨fuel, rfl⟩ : ∃ m, fuel = m + 1 := ⟨fuel - 1, by omega⟩
    have hi : i = rows.length := by omega
    refine ⟨out, H, ?_, hfr, ws, ho.arr, by simp [textRows, hwl, hi], fun q w cs hw hc => ?_⟩
    · rw [z_loop4]
      have hlt : ¬ i < rows.length := by omega
      simp only [f9_l1, n_lss, decide_eq_false hlt, z_cond, cond_false, z_rest ho.arr.good]
    · simp only [textRows, List.map_map, List.getElem?_map, Option.map_eq_some_iff] at hc
      obtain ⟨zs, hz, rfl⟩ := hc
      exact hdone q w zs hw hz
  | m + 1, i, fuel, H, out, ws, him, hf, hfr, ho, hwl, hws, hdone => by
    obtain ⟨fuel, rfl⟩ : ∃ m, fuel = m + 1 := ⟨fuel - 1, by omega⟩
    have hlt : i < rows.length := by omega
    obtain ⟨zs, hz⟩ : ∃ zs, rows[i]? = some zs := ⟨_, List.getElem?_eq_getElem hlt⟩
    obtain ⟨hb1, hb2⟩ := hbig zs (List.mem_of_getElem? hz)
    obtain ⟨w, hld, hzs⟩ := (hv.fr hfr).load hz
    obtain ⟨out', H1, t', h1, f1, hrw1, ho1, ha1⟩ := mtext_in K hK d (H0 := H) (Hi := H) (Fr.refl _ _) hzs hb1 hb2 ho hfr.size (by omega) hws v rows.length i (by omega) (slow.loop4 (f9_l1 slow K (runQ wk tab slow K (d + 3))) fuel) zs.length 0 K H (.slice nilSl) (by omega) (by omega) (Fr.refl _ _) (by simpa using Own.nil H.size H)
    have hs' : isSlice t' := Arr.isSlice ha1
    obtain ⟨r, H2, h2, f2, ht⟩ := mtext_out K hK d hv hbig hrl m (i + 1) fuel H1 out' (ws ++ [t']) (by omega) (by omega) (Fr.trans hfr f1) ho1 (by simp [hwl]) (fun q hq => by
      rcases List.mem_append.1 hq with hq | hq
      · exact hws q hq
      · rw [List.mem_singleton.1 hq]; exact hs') (fun q u zs' hu hz' => by
        by_cases hq : q < ws.length
        · rw [List.getElem?_append_left hq] at hu
          exact Arr.keep (hdone q u zs' hu hz') (fun c hc => by
            obtain ⟨s, _, rfl⟩ := List.mem_map.1 hc
            exact id) (X := fun r => inRow out r) (fun r rw hr hg c hc => by rw [Own.cells ho hr hg] at hc; exact hws c hc) hrw1
        · have hq2 : q = ws.length := by have := (List.getElem?_eq_some_iff.1 hu).1; simp at this; omega
          subst hq2
          simp at hu
          subst hu
          rw [hwl, hz] at hz'
          cases hz'
          exact ha1)
    refine ⟨r, H2, ?_, f2, ht⟩
    rw [z_loop4]
    simp only [f9_l1, n_lss, decide_eq_true hlt, z_cond, cond_true, hld, hzs.len]
    rw [show (SV.int .i64 0) = i64 0 from rfl, h1]
    exact h2
theorem mtext_ok (K : Nat) (hK : 100000 < K) (d : Nat) (H : Heap) {v : SV} {rows : List (List Int)} (hv : IsMat H v rows) (hbig : BigOk rows) (hrl : rows.length < 100000) :
    ∃ r H', runQ wk tab slow K (d + 4) 9 [v] H = some (r, H') ∧ Frame H H' ∧ IsTexts H' r (textRows rows) := by
  obtain ⟨w, rfl, hr⟩ := hv
  show ∃ r H', f9 slow K (runQ wk tab slow K (d + 3)) (.agg [w]) H = _ ∧ _
  simp only [f9, z_bbox, z_lfld, z_lld0, hr.len]
  exact mtext_out K hK d hr hbig hrl rows.length 0 K H (.slice nilSl) [] (by omega) (by omega) (Fr.refl _ _) (Own.nil _ _) rfl (fun w hw => by cases hw) (fun q w zs hw => by simp at hw)
end Go.Sh.Of
