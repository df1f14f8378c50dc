/- Contracts of the package mat: rows and matrices; shaped, made. Contracts of the package mat: Text; words for rows of numbers and of texts. Contracts of the package mat: lengths of rows. Contracts of the package mat: lengths of rows. Contracts of the package mat: Of, Make, Identity. Contracts of the package mat: made, where the function that tells entries keeps the first error in a box. Matrices of whole numbers: plain laws of products, sums, transposes. Contracts of the package mat: Parse, whole, Size, Add, Mul, Transpose, Same. Contracts: Uint64, Int64 of numbers and of matrices. -/
import Derived.Test.YtkgbokkeemjkkaaNum
import Derived.Test.YtkgbokkeemjkkaaSh31
set_option linter.unusedVariables false
set_option linter.unusedSimpArgs false
namespace Go.Sh.Of
open Go

/-- A list of whole numbers. -/
def IsZs (H : Heap) (v : SV) (zs : List Int) : Prop := ∃ els, ArrS 2 H v els ∧ els.length = zs.length ∧ ∀ (i : Nat) e z, els[i]? = some e → zs[i]? = some z → IsInt H (.agg e) z
theorem IsZs.fr {H H' : Heap} {v : SV} {zs : List Int} (h : IsZs H v zs) (hf : Frame H H') : IsZs H' v zs := by
  obtain ⟨els, h1, h2, h3⟩ := h
  exact ⟨els, h1.fr hf, h2, fun i e z he hz => (h3 i e z he hz).fr hf⟩
theorem IsZs.len {H : Heap} {v : SV} {zs : List Int} (h : IsZs H v zs) (k : K1) : slow.len v k = k (i64 zs.length) := by
  obtain ⟨els, h1, h2, h3⟩ := h
  rw [h1.len, h2]
theorem IsZs.flat {H : Heap} {v : SV} {zs : List Int} (h : IsZs H v zs) : v.flat = true := by
  obtain ⟨els, h1, h2, h3⟩ := h
  exact h1.flat
theorem IsZs.nil (H : Heap) : IsZs H (.slice nilSl) [] := ⟨[], ArrS.nil 2 H, rfl, fun i e z he => by simp at he⟩
/-- A number of a list is read. -/
theorem IsZs.load {H : Heap} {v : SV} {zs : List Int} (h : IsZs H v zs) {i : Nat} {z : Int} (hz : zs[i]? = some z) : ∃ x y, (∀ kd k, slow.idx 2 v (.int kd i) (fun p => slow.load 2 true p H k) = k (.agg [x, y])) ∧ IsInt H (.agg [x, y]) z := by
  obtain ⟨els, h1, h2, h3⟩ := h
  have hi := (List.getElem?_eq_some_iff.1 hz).1
  obtain ⟨e, he⟩ : ∃ e, els[i]? = some e := ⟨_, List.getElem?_eq_getElem (by omega)⟩
  have h4 := h3 i e z he hz
  obtain ⟨sl, e1, h5, h6⟩ := h4
  cases e1
  exact ⟨_, _, fun kd k => h1.load (by decide) he kd k, sl, rfl, h5, h6⟩
/-- Rows of whole numbers. -/
def IsRows (H : Heap) (v : SV) (rows : List (List Int)) : Prop := ∃ ws, Arr H v ws ∧ ws.length = rows.length ∧ ∀ (i : Nat) w zs, ws[i]? = some w → rows[i]? = some zs → IsZs H w zs
theorem IsRows.fr {H H' : Heap} {v : SV} {rows : List (List Int)} (h : IsRows H v rows) (hf : Frame H H') : IsRows H' v rows := by
  obtain ⟨ws, h1, h2, h3⟩ := h
  exact ⟨ws, h1.fr hf, h2, fun i w zs hw hz => (h3 i w zs hw hz).fr hf⟩
theorem IsRows.len {H : Heap} {v : SV} {rows : List (List Int)} (h : IsRows H v rows) (k : K1) : slow.len v k = k (i64 rows.length) := by
  obtain ⟨ws, h1, h2, h3⟩ := h
  rw [h1.len, h2]
theorem IsRows.flat {H : Heap} {v : SV} {rows : List (List Int)} (h : IsRows H v rows) : v.flat = true := by
  obtain ⟨ws, h1, h2, h3⟩ := h
  exact h1.flat
theorem IsRows.nil (H : Heap) : IsRows H (.slice nilSl) [] := ⟨[], Arr.nil H, rfl, fun i w zs hw => by simp at hw⟩
theorem IsRows.load {H : Heap} {v : SV} {rows : List (List Int)} (h : IsRows H v rows) {i : Nat} {zs : List Int} (hz : rows[i]? = some zs) : ∃ w, (∀ kd k, slow.idx 1 v (.int kd i) (fun p => slow.load 1 false p H k) = k w) ∧ IsZs H w zs := by
  obtain ⟨ws, h1, h2, h3⟩ := h
  have hi := (List.getElem?_eq_some_iff.1 hz).1
  obtain ⟨w, hw⟩ : ∃ w, ws[i]? = some w := ⟨_, List.getElem?_eq_getElem (by omega)⟩
  exact ⟨w, fun kd k => h1.load hw kd k, h3 i w zs hw hz⟩
/-- A matrix. -/
def IsMat (H : Heap) (v : SV) (rows : List (List Int)) : Prop := ∃ w, v = .agg [w] ∧ IsRows H w rows
theorem IsMat.fr {H H' : Heap} {v : SV} {rows : List (List Int)} (h : IsMat H v rows) (hf : Frame H H') : IsMat H' v rows := by
  obtain ⟨w, h1, h2⟩ := h
  exact ⟨w, h1, h2.fr hf⟩
theorem IsMat.nil (H : Heap) : IsMat H (.agg [.slice nilSl]) [] := ⟨_, rfl, IsRows.nil H⟩
/-- A number stays where only rows change in which no machine's number lies. -/
theorem IsInt.keep {H H' : Heap} {v : SV} {z : Int} (h : IsInt H v z) {X : Nat → Prop} (hX : ∀ r row, X r → H.get r = some row → ∀ c ∈ row.cells, ∀ kd n, c ≠ .int kd n) (hro : ∀ r, ¬ X r → r < H.size → H'.get r = H.get r) : IsInt H' v z := by
  obtain ⟨sl, rfl, ha, hf⟩ := h
  refine ⟨sl, rfl, ?_, hf⟩
  obtain ⟨s, rfl, h2, h3⟩ := ha
  refine ⟨s, rfl, h2, ?_⟩
  rcases h3 with h3 | ⟨r, o, row, b1, b2, b3, b4⟩
  · exact .inl h3
  · cases hd : digs z.natAbs with
    | nil => left; rfl
    | cons d ds =>
      right
      rw [hd] at b4
      have h0 := b4 0 (u32 d) rfl
      have hne : ¬ X r := fun e => hX r row e b2 _ (List.mem_of_getElem? h0) _ _ rfl
      exact ⟨r, o, row, b1, by rw [hro r hne (Heap.get_lt b2)]; exact b2, b3, b4⟩
/-- Elements that are whole numbers, ready or not. -/
def zCell (e : List SV) : Prop := ∃ b s, e = [.bool b, .slice s]
theorem IsInt.cell {H : Heap} {e : List SV} {z : Int} (h : IsInt H (.agg e) z) : zCell e := by
  obtain ⟨sl, e1, ⟨s, rfl, _⟩, _⟩ := h
  cases e1
  exact ⟨_, _, rfl⟩
theorem zCells_flat {els : List (List SV)} (h : ∀ e ∈ els, zCell e) : ∀ c ∈ els.flatten, ∀ kd n, c ≠ .int kd n := fun c hc kd n => by
  obtain ⟨e, he, hce⟩ := List.mem_flatten.1 hc
  obtain ⟨b, s, rfl⟩ := h e he
  simp at hce
  rcases hce with rfl | rfl <;> simp
/-- How long a slice is. -/
def slen : SV → Nat
  | .slice s => s.len
  | _ => 0
def isSlice : SV → Prop
  | .slice _ => True
  | _ => False
theorem IsZs.slen {H : Heap} {v : SV} {zs : List Int} (h : IsZs H v zs) : isSlice v ∧ slen v = zs.length := by
  obtain ⟨els, ⟨s, rfl, h1, _⟩, h2, h3⟩ := h
  exact ⟨trivial, by rw [← h2, ← h1]; rfl⟩
theorem Arr.slen {H : Heap} {v : SV} {cs : List SV} (h : Arr H v cs) : isSlice v ∧ slen v = cs.length := by
  obtain ⟨s, rfl, h1, _⟩ := h
  exact ⟨trivial, h1⟩
theorem isSlice_not_int {c : SV} (h : isSlice c) (kd : IntKind) (n : Int) : c ≠ .int kd n := fun e => by subst e; exact h
/-- Numbers stay where only rows of slices change. -/
theorem IsZs.keep {H H' : Heap} {v : SV} {zs : List Int} (h : IsZs H v zs) {X : Nat → Prop} (hX : ∀ r row, X r → H.get r = some row → ∀ c ∈ row.cells, isSlice c) (hro : ∀ r, ¬ X r → r < H.size → H'.get r = H.get r) : IsZs H' v zs := by
  obtain ⟨els, h1, h2, h3⟩ := h
  refine ⟨els, ?_, h2, fun i e z he hz => (h3 i e z he hz).keep (fun r row hx hg c hc kd n => isSlice_not_int (hX r row hx hg c hc) kd n) hro⟩
  obtain ⟨s, rfl, g1, g0, g3⟩ := h1
  refine ⟨s, rfl, g1, g0, ?_⟩
  rcases g3 with g3 | ⟨r, o, row, b1, b2, b3, b4⟩
  · exact .inl g3
  · cases els with
    | nil => left; rfl
    | cons e els =>
      right
      obtain ⟨z, hz⟩ : ∃ z, zs[0]? = some z := ⟨_, List.getElem?_eq_getElem (by simp at h2; omega)⟩
      obtain ⟨b, s', rfl⟩ := (h3 0 e z rfl hz).cell
      have h0 := b4 0 _ rfl 0 _ rfl
      have hne : ¬ X r := fun hx => hX r row hx b2 _ (List.mem_of_getElem? h0)
      exact ⟨r, o, row, b1, by rw [hro r hne (Heap.get_lt b2)]; exact b2, b3, b4⟩
theorem Own.cells {lo : Nat} {H : Heap} {v : SV} {cs : List SV} (h : Own lo H v cs) {r : Nat} {row : Row} (hr : inRow v r) (hg : H.get r = some row) : row.cells = cs := by
  obtain ⟨base, rfl, h⟩ := h
  obtain ⟨s, o, e, h4⟩ := hr
  cases e
  rcases h with ⟨rfl, _⟩ | ⟨r', ver, rfl, h2, h3⟩
  · cases h4
  · cases h4; rw [h3] at hg; cases hg; rfl
theorem OwnS.cells {n lo : Nat} {H : Heap} {v : SV} {els : List (List SV)} (h : OwnS n lo H v els) {r : Nat} {row : Row} (hr : inRow v r) (hg : H.get r = some row) : row.cells = els.flatten := by
  obtain ⟨hn, base, rfl, h⟩ := h
  obtain ⟨s, o, e, h4⟩ := hr
  cases e
  rcases h with ⟨rfl, _⟩ | ⟨r', ver, rfl, h2, h3⟩
  · cases h4
  · cases h4; rw [h3] at hg; cases hg; rfl
/-- May rows of these lengths be a matrix? -/
def shapedB (ns : List Nat) : Bool := ns.all fun n => decide (ns.length ≤ 16) && (decide (1 ≤ n) && (decide (n ≤ 16) && decide (some n = ns[0]?)))
theorem nats_get {ns : List Nat} {i n : Nat} (h : ns[i]? = some n) : (ns.map i64)[i]? = some (i64 n) := by simp [h]
theorem shaped_loop (C : CallC) (K : Nat) {H : Heap} {v : SV} {ns : List Nat} (hv : Arr H v (ns.map i64)) (hb : ns.length < 100000) : ∀ (rest : List Nat) (i fuel : Nat), ns.drop i = rest → rest.length < fuel →
    slow.loop4 (f47_l1 slow K C) fuel v v (i64 ns.length) (i64 i) H = some (.bool (rest.all fun n => decide (ns.length ≤ 16) && (decide (1 ≤ n) && (decide (n ≤ 16) && decide (some n = ns[0]?)))), H)
  | [], i, fuel, hd, hf => by
    obtain ⟨fuel, rfl⟩ : ∃ m, fuel = m + 1 := ⟨fuel - 1, by omega⟩
    have hi : ¬ i < ns.length := by have := List.drop_eq_nil_iff.1 hd; omega
    rw [z_loop4]
    simp only [f47_l1, n_lss, decide_eq_false hi, z_cond, cond_false, List.all_nil]
  | n :: rest, i, fuel, hd, hf => by
    obtain ⟨fuel, rfl⟩ : ∃ m, fuel = m + 1 := ⟨fuel - 1, by omega⟩
    have hn : ns[i]? = some n := by
      have := congrArg List.head? hd
      rwa [List.head?_drop, List.head?_cons] at this
    have hi : i < ns.length := (List.getElem?_eq_some_iff.1 hn).1
    have hd' : ns.drop (i + 1) = rest := by rw [← List.drop_drop, hd]; rfl
    obtain ⟨m, hm⟩ : ∃ m, ns[0]? = some m := ⟨_, List.getElem?_eq_getElem (by omega)⟩
    have h0 : ∀ k, slow.idx 1 v (.int .i64 0) (fun p => slow.load 1 false p H k) = k (i64 m) := fun k => hv.load (i := 0) (nats_get hm) .i64 k
    have hlen : ∀ k, slow.len v k = k (i64 ns.length) := fun k => by rw [hv.len]; simp
    rw [z_loop4]
    simp only [f47_l1, n_lss, decide_eq_true hi, z_cond, cond_true, hv.load (nats_get hn), hlen]
    rw [show (SV.int .i64 16) = i64 16 from rfl, n_gtr, z_guard]
    rw [List.all_cons]
    by_cases h1 : ns.length > 16
    · rw [decide_eq_true h1, cond_true, decide_eq_false (show ¬ ns.length ≤ 16 by omega)]
      simp only [f47_j3, z_cond, cond_true, Bool.false_and]
    · rw [decide_eq_false h1, cond_false, decide_eq_true (show ns.length ≤ 16 by omega), show (SV.int .i64 1) = i64 1 from rfl, n_lss, z_guard]
      by_cases h2 : n < 1
      · rw [decide_eq_true h2, cond_true, decide_eq_false (show ¬ 1 ≤ n by omega)]
        simp only [f47_j3, z_cond, cond_true, Bool.false_and, Bool.and_false]
      · rw [decide_eq_false h2, cond_false, decide_eq_true (show 1 ≤ n by omega), n_gtr, z_guard]
        by_cases h3 : n > 16
        · rw [decide_eq_true h3, cond_true, decide_eq_false (show ¬ n ≤ 16 by omega)]
          simp only [f47_j3, z_cond, cond_true, Bool.false_and, Bool.and_false]
        · rw [decide_eq_false h3, cond_false, decide_eq_true (show n ≤ 16 by omega), h0, n_neq]
          by_cases h4 : n ≠ m
          · have h5 : ¬ (some n = ns[0]?) := by rw [hm]; intro e; exact h4 (Option.some.inj e)
            rw [decide_eq_true h4, decide_eq_false h5]
            simp only [f47_j3, z_cond, cond_true, Bool.false_and, Bool.and_false]
          · have h5 : some n = ns[0]? := by rw [hm, Decidable.not_not.1 h4]
            rw [decide_eq_false h4, decide_eq_true h5]
            simp only [f47_j3, z_cond, cond_false, Bool.true_and]
            rw [show (SV.int .i64 1) = i64 1 from rfl, n_addi _ (by omega)]
            have ih := shaped_loop C K hv hb rest (i + 1) fuel hd' (by simp at hf; omega)
            rw [decide_eq_true (show ns.length ≤ 16 by omega)] at ih
            simp only [Bool.true_and] at ih
            exact ih
theorem shaped_ok (K : Nat) (d : Nat) (H : Heap) {v : SV} {ns : List Nat} (hv : Arr H v (ns.map i64)) (hb : ns.length < 100000) (hK : 100000 < K) : runQ wk tab slow K (d + 1) 47 [v] H = some (.bool (shapedB ns), H) := by
  show f47 slow K (runQ wk tab slow K d) v H = _
  simp only [f47, hv.len]
  rw [show (ns.map i64).length = ns.length by simp]
  exact shaped_loop _ K hv hb ns 0 K rfl (by omega)
/-! ### made -/
def rowOfE (E : Nat → Nat → Int) (cols i : Nat) : List Int := (List.range cols).map (E i)
def matOfE (E : Nat → Nat → Int) (rows cols : Nat) : List (List Int) := (List.range rows).map (rowOfE E cols)
theorem rowOfE_get {E : Nat → Nat → Int} {cols i j : Nat} (h : j < cols) : (rowOfE E cols i)[j]? = some (E i j) := by simp [rowOfE, h]
theorem rowOfE_len (E : Nat → Nat → Int) (cols i : Nat) : (rowOfE E cols i).length = cols := by simp [rowOfE]
theorem Own.geA {lo : Nat} {H : Heap} {v : SV} {cs : List SV} (h : Own lo H v cs) {r : Nat} (hr : inRow v r) : lo ≤ r := by
  obtain ⟨base, rfl, h⟩ := h
  obtain ⟨s, o, e, h4⟩ := hr
  cases e
  rcases h with ⟨rfl, _⟩ | ⟨r', ver, rfl, h2, h3⟩
  · cases h4
  · cases h4; exact h2
theorem OwnS.geA {n lo : Nat} {H : Heap} {v : SV} {els : List (List SV)} (h : OwnS n lo H v els) {r : Nat} (hr : inRow v r) : lo ≤ r := by
  obtain ⟨_, base, rfl, h⟩ := h
  obtain ⟨s, o, e, h4⟩ := hr
  cases e
  rcases h with ⟨rfl, _⟩ | ⟨r', ver, rfl, h2, h3⟩
  · cases h4
  · cases h4; exact h2
/-- A matrix of which no row of cells lies below lo. -/
def IsMatF (lo : Nat) (H : Heap) (v : SV) (rows : List (List Int)) : Prop := ∃ w, v = .agg [w] ∧ (∀ r, inRow w r → lo ≤ r) ∧ ∃ ws, Arr H w ws ∧ ws.length = rows.length ∧ ∀ (i : Nat) w zs, ws[i]? = some w → rows[i]? = some zs → IsZs H w zs ∧ ∀ r, inRow w r → lo ≤ r
theorem IsMatF.mat {lo : Nat} {H : Heap} {v : SV} {rows : List (List Int)} (h : IsMatF lo H v rows) : IsMat H v rows := by
  obtain ⟨w, e, _, ws, h1, h2, h3⟩ := h
  exact ⟨w, e, ws, h1, h2, fun i w zs hw hz => (h3 i w zs hw hz).1⟩
theorem IsMatF.fr {lo : Nat} {H H' : Heap} {v : SV} {rows : List (List Int)} (h : IsMatF lo H v rows) (hf : Frame H H') : IsMatF lo H' v rows := by
  obtain ⟨w, e, h0, ws, h1, h2, h3⟩ := h
  exact ⟨w, e, h0, ws, h1.fr hf, h2, fun i w zs hw hz => ⟨(h3 i w zs hw hz).1.fr hf, (h3 i w zs hw hz).2⟩⟩
theorem IsMatF.mono {lo lo' : Nat} {H : Heap} {v : SV} {rows : List (List Int)} (h : IsMatF lo H v rows) (hl : lo' ≤ lo) : IsMatF lo' H v rows := by
  obtain ⟨w, e, h0, ws, h1, h2, h3⟩ := h
  exact ⟨w, e, fun r hr => Nat.le_trans hl (h0 r hr), ws, h1, h2, fun i w zs hw hz => ⟨(h3 i w zs hw hz).1, fun r hr => Nat.le_trans hl ((h3 i w zs hw hz).2 r hr)⟩⟩
theorem IsMatF.nil (lo : Nat) (H : Heap) : IsMatF lo H (.agg [.slice nilSl]) [] := ⟨_, rfl, (fun r hr => by obtain ⟨s, o, e, h⟩ := hr; cases e; cases h), [], Arr.nil H, rfl, fun i w zs hw => by simp at hw⟩
end Go.Sh.Of
namespace Go.Sh.Of
open Go

/-- One more behind a list of one's own. -/
theorem push1 {lo : Nat} {H : Heap} {t : SV} {cs : List SV} (h : Own lo H t cs) (hl : lo ≤ H.size) (z : SV) {x : SV} (hx : x.flat = true) {by_ : Nat} (hr : roomy (cs.length + 1) by_ = true) :
    ∃ t' H', (∀ k, slow.hbuild 1 [z] [(0, 1)] [x] H (fun u H1 => slow.append 1 by_ t u H1 k) = k t' H') ∧ Own lo H' t' (cs ++ [x]) ∧ Fr lo H H' ∧ (∀ r, ¬ inRow t r → r < H.size → H'.get r = H.get r) := by
  obtain ⟨u, H1, hu, hou, hfu, hru, hsz⟩ := z_lay1 (H := H) (lo := H.size) (Nat.le_refl _) z hx
  obtain ⟨t', H2, ha, ho2, hf2, hrw, _, _⟩ := (h.fr hfu).append (Nat.le_trans hl hfu.size) hou.arr (by_ := by_) hr
  exact ⟨t', H2, fun k => by rw [hu, ha], ho2, (hfu.mono hl).trans hf2, fun r hn hlt => by rw [hrw r hn (Nat.lt_of_lt_of_le hlt hfu.size), hfu.rows r hlt]⟩
/-- One struct more. -/
theorem pushS {n lo : Nat} (hn : 0 < n) (hn' : n ≤ 1000) {H : Heap} {t : SV} {els : List (List SV)} (h : OwnS n lo H t els) (hl : lo ≤ H.size) (z : List SV) (hz : z.length = n) {e : List SV} (he : e.length = n) {by_ : Nat} (hr : roomy (els.length + 1) by_ = true) :
    ∃ t' H', (∀ k, slow.hbuild n z [(0, n)] [.agg e] H (fun u H1 => slow.append n by_ t u H1 k) = k t' H') ∧ OwnS n lo H' t' (els ++ [e]) ∧ Fr lo H H' ∧ (∀ r, ¬ inRow t r → r < H.size → H'.get r = H.get r) := by
  obtain ⟨u, H1, hu, hou, hfu, hru, hsz⟩ := z_layS (H := H) (lo := H.size) (Nat.le_refl _) n hn hn' z hz he
  obtain ⟨t', H2, ha, ho2, hf2, hrw, _⟩ := OwnS.append hn (h.fr hfu) (Nat.le_trans hl hfu.size) hou.arr (by_ := by_) hr
  exact ⟨t', H2, fun k => by rw [hu, ha], ho2, (hfu.mono hl).trans hf2, fun r hn hlt => by rw [hrw r hn (Nat.lt_of_lt_of_le hlt hfu.size), hfu.rows r hlt]⟩
/-- Rows of cells. -/
def IsRowsC (H : Heap) (v : SV) (rows : List (List SV)) : Prop := ∃ ws, Arr H v ws ∧ ws.length = rows.length ∧ ∀ (i : Nat) w cs, ws[i]? = some w → rows[i]? = some cs → Arr H w cs
theorem IsRowsC.fr {H H' : Heap} {v : SV} {rows : List (List SV)} (h : IsRowsC H v rows) (hf : Frame H H') : IsRowsC H' v rows := by
  obtain ⟨ws, h1, h2, h3⟩ := h
  exact ⟨ws, h1.fr hf, h2, fun i w zs hw hz => (h3 i w zs hw hz).fr hf⟩
theorem IsRowsC.len {H : Heap} {v : SV} {rows : List (List SV)} (h : IsRowsC H v rows) (k : K1) : slow.len v k = k (i64 rows.length) := by
  obtain ⟨ws, h1, h2, h3⟩ := h
  rw [h1.len, h2]
theorem IsRowsC.load {H : Heap} {v : SV} {rows : List (List SV)} (h : IsRowsC H v rows) {i : Nat} {cs : List SV} (hz : rows[i]? = some cs) : ∃ w, (∀ kd k, slow.idx 1 v (.int kd i) (fun p => slow.load 1 false p H k) = k w) ∧ Arr H w cs := by
  obtain ⟨ws, h1, h2, h3⟩ := h
  have hi := (List.getElem?_eq_some_iff.1 hz).1
  obtain ⟨w, hw⟩ : ∃ w, ws[i]? = some w := ⟨_, List.getElem?_eq_getElem (by omega)⟩
  exact ⟨w, fun kd k => h1.load hw kd k, h3 i w cs hw hz⟩
theorem IsRowsC.flat {H : Heap} {v : SV} {rows : List (List SV)} (h : IsRowsC H v rows) : v.flat = true := by
  obtain ⟨ws, h1, h2, h3⟩ := h
  exact h1.flat
theorem IsRowsC.good {H : Heap} {v : SV} {rows : List (List SV)} (h : IsRowsC H v rows) : v.good = true := by
  obtain ⟨ws, h1, h2, h3⟩ := h
  exact h1.good
/-- Rows of numbers of the machine. -/
abbrev IsInts2 (H : Heap) (v : SV) (rows : List (List Int)) : Prop := IsRowsC H v (rows.map (intsL .i64))
/-- Cells that are no slices stay where only rows of slices change. -/
theorem Arr.keep {H H' : Heap} {v : SV} {cs : List SV} (h : Arr H v cs) (hcs : ∀ c ∈ cs, ¬ isSlice c) {X : Nat → Prop} (hX : ∀ r row, X r → H.get r = some row → ∀ c ∈ row.cells, isSlice c) (hro : ∀ r, ¬ X r → r < H.size → H'.get r = H.get r) : Arr H' v cs := by
  obtain ⟨s, rfl, h2, h3⟩ := h
  refine ⟨s, rfl, h2, ?_⟩
  rcases h3 with h3 | ⟨r, o, row, b1, b2, b3, b4⟩
  · exact .inl h3
  · cases cs with
    | nil => left; rfl
    | cons c cs =>
      right
      have h0 := b4 0 c rfl
      have hne : ¬ X r := fun hx => hcs c (by simp) (hX r row hx b2 _ (List.mem_of_getElem? h0))
      exact ⟨r, o, row, b1, by rw [hro r hne (Heap.get_lt b2)]; exact b2, b3, b4⟩
theorem Arr.isSlice {H : Heap} {v : SV} {cs : List SV} (h : Arr H v cs) : isSlice v := (Arr.slen h).1
/-! ### Text -/
end Go.Sh.Of
namespace Go.Sh.Of
open Go

end Go.Sh.Of
namespace Go.Sh.Of
open Go

end Go.Sh.Of
namespace Go.Sh.Of
open Go

/-- The entry of rows. -/
def ent (rows : List (List Int)) (i j : Nat) : Int := (((rows[i]?).getD [])[j]?).getD 0
/-- How many columns: as the first row says. -/
def colsOf (rows : List (List Int)) : Nat := ((rows[0]?).getD []).length
theorem ent_get {rows : List (List Int)} {i j : Nat} {r : List Int} {z : Int} (hr : rows[i]? = some r) (hz : r[j]? = some z) : ent rows i j = z := by simp [ent, hr, hz]
/-- Rows that are a matrix. -/
def Shaped (rows : List (List Int)) : Prop := rows.length ≤ 16 ∧ ∀ r ∈ rows, 1 ≤ r.length ∧ r.length ≤ 16 ∧ r.length = colsOf rows
theorem shapedB_iff {rows : List (List Int)} : shapedB (rows.map List.length) = true ↔ rows = [] ∨ Shaped rows := by
  unfold shapedB Shaped
  rw [List.all_eq_true]
  cases rows with
  | nil => simp
  | cons r0 rows =>
    have hc : colsOf (r0 :: rows) = r0.length := rfl
    simp only [List.length_map, List.map_cons, List.getElem?_cons_zero, Bool.and_eq_true, decide_eq_true_eq, Option.some.injEq, hc]
    constructor
    · intro h
      right
      refine ⟨by simpa using (h r0.length (by simp)).1, fun r hr => ?_⟩
      have := h r.length (by
        rcases List.mem_cons.1 hr with rfl | hr
        · simp
        · exact List.mem_cons_of_mem _ (List.mem_map_of_mem hr))
      exact ⟨this.2.1, this.2.2.1, this.2.2.2⟩
    · rintro (h | ⟨h1, h2⟩)
      · cases h
      · intro n hn
        obtain ⟨r, hr, rfl⟩ : ∃ r ∈ r0 :: rows, r.length = n := by
          rcases List.mem_cons.1 hn with rfl | hn
          · exact ⟨r0, by simp, rfl⟩
          · obtain ⟨r, hr, rfl⟩ := List.mem_map.1 hn
            exact ⟨r, by simp [hr], rfl⟩
        have := h2 r hr
        exact ⟨by simpa using h1, this.1, this.2.1, this.2.2⟩
theorem matOfE_self {rows : List (List Int)} (h : ∀ r ∈ rows, r.length = colsOf rows) : matOfE (ent rows) rows.length (colsOf rows) = rows := by
  apply List.ext_getElem?
  intro i
  by_cases hi : i < rows.length
  · have hr : rows[i]? = some rows[i] := List.getElem?_eq_getElem hi
    have hl := h rows[i] (List.getElem_mem hi)
    simp only [matOfE, List.getElem?_map, List.getElem?_range hi, Option.map_some]
    rw [hr]
    congr 1
    apply List.ext_getElem?
    intro j
    by_cases hj : j < colsOf rows
    · have hz : (rows[i])[j]? = some (rows[i])[j] := List.getElem?_eq_getElem (by omega)
      rw [rowOfE_get hj, hz, ent_get hr hz]
    · rw [List.getElem?_eq_none (by rw [rowOfE_len]; omega), List.getElem?_eq_none (by omega)]
  · rw [List.getElem?_eq_none (by simp [matOfE]; omega), List.getElem?_eq_none (by omega)]
/-- What Of and Make answer. -/
def ofErr (rows : List (List Int)) : Int := if shapedB (rows.map List.length) then 0 else 5
def ofMat (rows : List (List Int)) : List (List Int) := if shapedB (rows.map List.length) then rows else []
end Go.Sh.Of
namespace Go.Sh.Of
open Go

theorem Arr.keepG {H H' : Heap} {v : SV} {cs : List SV} (h : Arr H v cs) {X : Nat → Prop} (hX : ∀ c0 ∈ cs, ∀ r row, X r → H.get r = some row → ∀ c ∈ row.cells, c ≠ c0) (hro : ∀ r, ¬ X r → r < H.size → H'.get r = H.get r) : Arr H' v cs := by
  obtain ⟨s, rfl, h2, h3⟩ := h
  refine ⟨s, rfl, h2, ?_⟩
  rcases h3 with h3 | ⟨r, o, row, b1, b2, b3, b4⟩
  · exact .inl h3
  · cases cs with
    | nil => left; rfl
    | cons c cs =>
      right
      have h0 := b4 0 c rfl
      have hne : ¬ X r := fun hx => hX c (by simp) r row hx b2 _ (List.mem_of_getElem? h0) rfl
      exact ⟨r, o, row, b1, by rw [hro r hne (Heap.get_lt b2)]; exact b2, b3, b4⟩
/-- All that was there stays, but for the row q. -/
def FrQ (q lo : Nat) (H H' : Heap) : Prop := H.size ≤ H'.size ∧ ∀ r, r < lo → r ≠ q → H'.get r = H.get r
theorem FrQ.refl (q lo : Nat) (H : Heap) : FrQ q lo H H := ⟨Nat.le_refl _, fun _ _ _ => rfl⟩
theorem FrQ.trans {q lo : Nat} {H H' H'' : Heap} (h : FrQ q lo H H') (h' : FrQ q lo H' H'') : FrQ q lo H H'' := ⟨Nat.le_trans h.1 h'.1, fun r hr hn => (h'.2 r hr hn).trans (h.2 r hr hn)⟩
theorem FrQ.mono {q lo lo' : Nat} {H H' : Heap} (h : FrQ q lo H H') (hl : lo' ≤ lo) : FrQ q lo' H H' := ⟨h.1, fun r hr hn => h.2 r (Nat.lt_of_lt_of_le hr hl) hn⟩
/-- Beyond a heap that has no row q, nothing changed. -/
theorem FrQ.fr {q lo : Nat} {H H' : Heap} (h : FrQ q lo H H') (hq : lo ≤ q) : Fr lo H H' := ⟨h.1, fun r hr => h.2 r hr (by omega)⟩
/-- The box of a number. -/
def Box (q : Nat) (H : Heap) (st : Int) : Prop := ∃ ver, H.get q = some ⟨2, 1, ver, [.int .i64 st]⟩
theorem Box.of_get {q : Nat} {H H' : Heap} {st : Int} (h : Box q H st) (e : H'.get q = H.get q) : Box q H' st := by
  obtain ⟨ver, hv⟩ := h
  exact ⟨ver, e.trans hv⟩
theorem Box.fr {q lo : Nat} {H H' : Heap} {st : Int} (h : Box q H st) (f : Fr lo H H') (hq : q < lo) : Box q H' st := h.of_get (f.rows q hq)
theorem Box.lt {q : Nat} {H : Heap} {st : Int} (h : Box q H st) : q < H.size := by
  obtain ⟨ver, hv⟩ := h
  exact Heap.get_lt hv
theorem Box.holds {q : Nat} {H : Heap} {st : Int} (h : Box q H st) : Holds H (.ptr (q, 0)) (.int .i64 st) := by
  obtain ⟨ver, hv⟩ := h
  exact ⟨q, _, rfl, hv, by simp, rfl⟩
theorem Box.new (H : Heap) (st : Int) : ∃ H', (∀ k, slow.box (.int .i64 st) H k = k (.ptr (H.size, 0)) H') ∧ Frame H H' ∧ Box H.size H' st ∧ H'.size = H.size + 1 :=
  ⟨H.push (newRow 1 [.int .i64 st]), fun k => z_box rfl H k, Fr.push (Nat.le_refl _) _, ⟨0, Heap.get_push_self _ _⟩, by simp [Heap.size_push]⟩
theorem Box.store {q : Nat} {H : Heap} {st : Int} (h : Box q H st) (st' : Int) : ∃ H', (∀ k, slow.store 1 (.ptr (q, 0)) (.int .i64 st') H k = k H') ∧ Box q H' st' ∧ H'.size = H.size ∧ ∀ r, r ≠ q → H'.get r = H.get r := by
  obtain ⟨ver, hv⟩ := h
  refine ⟨H.set q ⟨2, 1, ver + 1, [.int .i64 st']⟩, fun k => ?_, ⟨ver + 1, Heap.get_set_self hv _⟩, rfl, fun r hr => Heap.get_set_ne _ (Ne.symm hr) _⟩
  show (opE (.store 1) [.ptr (q, 0), .int .i64 st'] H).bind _ = _
  have hb1 : Nat.beq ([SV.int .i64 st'] : List SV).length 1 = true := rfl
  have hb2 : Nat.beq 2 2 = true := rfl
  simp only [opE, SV.item, SV.cells, SV.flat, hb1, Bool.true_and, Bool.and_true, cond_true, Heap.write, hv, hb2, splice_one (cs := [SV.int .i64 st]) (i := 0) (by simp) (.int .i64 st'), Option.map_some, Option.bind_some, List.set_cons_zero]
theorem Box.cells {q : Nat} {H : Heap} {st : Int} (h : Box q H st) : ∀ r row, r = q → H.get r = some row → ∀ c ∈ row.cells, ∀ n, c ≠ .int .u32 n := fun r row e hg c hc n => by
  subst e
  obtain ⟨ver, hv⟩ := h
  rw [hv] at hg
  cases hg
  rw [List.mem_singleton.1 hc]
  intro e
  cases e
end Go.Sh.Of
namespace Go.Sh.Of
open Go

theorem matOfE_congr {E E' : Nat → Nat → Int} {n k : Nat} (h : ∀ i j, i < n → j < k → E i j = E' i j) : matOfE E n k = matOfE E' n k := by
  unfold matOfE
  apply List.map_congr_left
  intro i hi
  unfold rowOfE
  apply List.map_congr_left
  intro j hj
  exact h i j (List.mem_range.1 hi) (List.mem_range.1 hj)
/-- A matrix of the package: at most 16 rows and columns, entries of at most 4096 bits. -/
structure Good (A : List (List Int)) : Prop where
  rect : ∀ r ∈ A, r.length = colsOf A
  cols : A ≠ [] → 1 ≤ colsOf A ∧ colsOf A ≤ 16
  rows : A.length ≤ 16
  big : ∀ r ∈ A, ∀ z ∈ r, z.natAbs < 2 ^ 4096
theorem Good.nil : Good [] := ⟨(fun r hr => by cases hr), (fun h => absurd rfl h), by simp, (fun r hr => by cases hr)⟩
theorem Good.c16 {A : List (List Int)} (h : Good A) : colsOf A ≤ 16 := by
  by_cases ha : A = []
  · subst ha; simp [colsOf]
  · exact (h.cols ha).2
theorem Good.self {A : List (List Int)} (h : Good A) : matOfE (ent A) A.length (colsOf A) = A := matOfE_self h.rect
theorem Good.at {A : List (List Int)} (h : Good A) {i j : Nat} (hi : i < A.length) (hj : j < colsOf A) : ∃ r, A[i]? = some r ∧ r[j]? = some (ent A i j) ∧ (ent A i j).natAbs < 2 ^ 4096 := by
  have h1 : A[i]? = some A[i] := List.getElem?_eq_getElem hi
  have hm := List.getElem_mem hi
  have hl := h.rect _ hm
  have h2 : (A[i])[j]? = some (A[i])[j] := List.getElem?_eq_getElem (by omega)
  refine ⟨_, h1, ?_⟩
  rw [ent_get h1 h2]
  exact ⟨h2, h.big _ hm _ (List.getElem_mem _)⟩
/-- Two that have the same entries. -/
theorem Good.ext {A B : List (List Int)} (ha : Good A) (hb : Good B) (h1 : A.length = B.length) (h2 : colsOf A = colsOf B) (h3 : ∀ i j, i < A.length → j < colsOf A → ent A i j = ent B i j) : A = B := by
  rw [← ha.self, ← hb.self, ← h1, ← h2]
  exact matOfE_congr h3
/-! ### Sums of products -/
/-! ### Products -/
end Go.Sh.Of
namespace Go.Sh.Of
open Go

theorem fitZ_yes {z : Int} (h : z.natAbs < 2 ^ 4096) : fitZ z = z := by unfold fitZ; rw [if_pos h]
/-! ### Boxes of matrices -/
theorem Holds.fld {H : Heap} {p x : SV} (h : Holds H p x) (k : K1) : slow.fld 0 p k = k p := by
  obtain ⟨r, row, rfl, h2, h3, h4⟩ := h
  rfl
theorem z_mkfn {f : Nat} {xs : List SV} (hx : xs.all SV.good = true) (k : K1) : slow.mkfn f 0 xs k = k (.fn f [] xs) := by
  show (opP (.mkfn f 0) xs).bind k = _
  simp [opP, hx]
theorem Box.alloc (H : Heap) (st st' : Int) : ∃ H' H'', (∀ k, slow.alloc [.int .i64 st] H k = k (.ptr (H.size, 0)) H') ∧ (∀ k, slow.store 1 (.ptr (H.size, 0)) (.int .i64 st') H' k = k H'') ∧ Frame H H'' ∧ Box H.size H'' st' ∧ H''.size = H.size + 1 := by
  have b : Box H.size (H.push (newRow 1 [.int .i64 st])) st := ⟨0, Heap.get_push_self _ _⟩
  obtain ⟨H2, h1, h2, h3, h4⟩ := b.store st'
  have hs : (H.push (newRow 1 [.int .i64 st])).size = H.size + 1 := by simp [Heap.size_push]
  exact ⟨_, H2, fun k => rfl, h1, ⟨by omega, fun r hr => by rw [h4 r (by omega), Heap.get_push_ne _ _ (by omega)]⟩, h2, by omega⟩
/-! ### Texts -/
/-! ### whole -/
/-! ### Size -/
/-- A matrix in a box: an entry. -/
theorem IsRows.entry {H : Heap} {w : SV} {A : List (List Int)} (h : IsRows H w A) (hg : Good A) {i j : Nat} (hi : i < A.length) (hj : j < colsOf A) : ∃ u x y, (∀ k, slow.idx 1 w (i64 i) (fun p => slow.load 1 false p H k) = k u) ∧ (∀ k, slow.idx 2 u (i64 j) (fun p => slow.load 2 true p H k) = k (.agg [x, y])) ∧ IsInt H (.agg [x, y]) (ent A i j) := by
  obtain ⟨r, h1, h2, _⟩ := hg.at hi hj
  obtain ⟨u, hu, hz⟩ := h.load h1
  obtain ⟨x, y, hxy, hint⟩ := hz.load h2
  exact ⟨u, x, y, fun k => hu .i64 k, fun k => hxy .i64 k, hint⟩
/-! ### Transpose -/
/-! ### Add -/
/-! ### Same -/
end Go.Sh.Of
namespace Go.Sh.Of
open Go Go.Sh

/-! ### Uint64 -/
/-! ### Int64 of a matrix -/
end Go.Sh.Of

