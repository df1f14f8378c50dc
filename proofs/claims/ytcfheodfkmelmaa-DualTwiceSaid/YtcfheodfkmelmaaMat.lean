/- Contracts of the package mat: rows and matrices; shaped, made. Contracts of the package mat: Text; words for rows of numbers and of texts. Contracts of the package mat: lengths of rows. Contracts of the package mat: lengths of rows. Contracts of the package mat: Of, Make, Identity. Contracts of the package mat: made, where the function that tells entries keeps the first error in a box. Matrices of whole numbers: plain laws of products, sums, transposes. Contracts of the package mat: Parse, whole, Size, Add, Mul, Transpose, Same. Contracts: Uint64, Int64 of numbers and of matrices. -/
import Derived.Test.YtcfheodfkmelmaaNum
import Derived.Test.YtcfheodfkmelmaaSh31
set_option linter.unusedVariables false
set_option linter.unusedSimpArgs false
namespace Go.Sh.Of
open Go
def IsZs (H : Heap) (v : SV) (zs : List Int) : Prop := ∃ els, ArrS 2 H v els /\ els.length = zs.length /\ ∀ (i : Nat) e z, els[i]? = some e -> zs[i]? = some z -> IsInt H (.agg e) z
theorem IsZs.fr {H H' : Heap} {v : SV} {zs : List Int} (h : IsZs H v zs) (hf : Frame H H') : IsZs H' v zs := by
 obtain ⟨els, h1, h2, h3⟩ := h
 exact ⟨els, h1.fr hf, h2, fun i e z he hz => (h3 i e z he hz).fr hf⟩
theorem IsZs.len {H : Heap} {v : SV} {zs : List Int} (h : IsZs H v zs) (k : K1) : slow.len v k = k (i64 zs.length) := by
 obtain ⟨els, h1, h2, h3⟩ := h
 rw [h1.len, h2]
theorem IsZs.flat {H : Heap} {v : SV} {zs : List Int} (h : IsZs H v zs) : v.flat = true := by
 obtain ⟨els, h1, h2, h3⟩ := h
 exact h1.flat
theorem IsZs.load {H : Heap} {v : SV} {zs : List Int} (h : IsZs H v zs) {i : Nat} {z : Int} (hz : zs[i]? = some z) : ∃ x y, (∀ kd k, slow.idx 2 v (.int kd i) (fun p => slow.load 2 true p H k) = k (.agg [x, y])) /\ IsInt H (.agg [x, y]) z := by
 obtain ⟨els, h1, h2, h3⟩ := h
 have hi := (List.getElem?_eq_some_iff.1 hz).1
 obtain ⟨e, he⟩ : ∃ e, els[i]? = some e := ⟨_, List.getElem?_eq_getElem (by omega)⟩
 have h4 := h3 i e z he hz
 obtain ⟨sl, e1, h5, h6⟩ := h4
 cases e1
 exact ⟨_, _, fun kd k => h1.load (by decide) he kd k, sl, rfl, h5, h6⟩
def IsRows (H : Heap) (v : SV) (rows : List (List Int)) : Prop := ∃ ws, Arr H v ws /\ ws.length = rows.length /\ ∀ (i : Nat) w zs, ws[i]? = some w -> rows[i]? = some zs -> IsZs H w zs
theorem IsRows.fr {H H' : Heap} {v : SV} {rows : List (List Int)} (h : IsRows H v rows) (hf : Frame H H') : IsRows H' v rows := by
 obtain ⟨ws, h1, h2, h3⟩ := h
 exact ⟨ws, h1.fr hf, h2, fun i w zs hw hz => (h3 i w zs hw hz).fr hf⟩
theorem IsRows.len {H : Heap} {v : SV} {rows : List (List Int)} (h : IsRows H v rows) (k : K1) : slow.len v k = k (i64 rows.length) := by
 obtain ⟨ws, h1, h2, h3⟩ := h
 rw [h1.len, h2]
theorem IsRows.flat {H : Heap} {v : SV} {rows : List (List Int)} (h : IsRows H v rows) : v.flat = true := by
 obtain ⟨ws, h1, h2, h3⟩ := h
 exact h1.flat
theorem IsRows.nil (H : Heap) : IsRows H (.slice nilSl) [] := ⟨[], Arr.nil H, rfl, fun i w zs hw => by simp at hw⟩
theorem IsRows.load {H : Heap} {v : SV} {rows : List (List Int)} (h : IsRows H v rows) {i : Nat} {zs : List Int} (hz : rows[i]? = some zs) : ∃ w, (∀ kd k, slow.idx 1 v (.int kd i) (fun p => slow.load 1 false p H k) = k w) /\ IsZs H w zs := by
 obtain ⟨ws, h1, h2, h3⟩ := h
 have hi := (List.getElem?_eq_some_iff.1 hz).1
 obtain ⟨w, hw⟩ : ∃ w, ws[i]? = some w := ⟨_, List.getElem?_eq_getElem (by omega)⟩
 exact ⟨w, fun kd k => h1.load hw kd k, h3 i w zs hw hz⟩
def IsMat (H : Heap) (v : SV) (rows : List (List Int)) : Prop := ∃ w, v = .agg [w] /\ IsRows H w rows
theorem IsMat.fr {H H' : Heap} {v : SV} {rows : List (List Int)} (h : IsMat H v rows) (hf : Frame H H') : IsMat H' v rows := by
 obtain ⟨w, h1, h2⟩ := h
 exact ⟨w, h1, h2.fr hf⟩
theorem IsMat.nil (H : Heap) : IsMat H (.agg [.slice nilSl]) [] := ⟨_, rfl, IsRows.nil H⟩
theorem IsInt.keep {H H' : Heap} {v : SV} {z : Int} (h : IsInt H v z) {X : Nat -> Prop} (hX : ∀ r row, X r -> H.get r = some row -> ∀ c ∈ row.cells, ∀ kd n, c ≠ .int kd n) (hro : ∀ r, ¬ X r -> r < H.size -> H'.get r = H.get r) : IsInt H' v z := by
 obtain ⟨sl, rfl, ha, hf⟩ := h
 refine ⟨sl, rfl, ?_, hf⟩
 obtain ⟨s, rfl, h2, h3⟩ := ha
 refine ⟨s, rfl, h2, ?_⟩
 rcases h3 with h3 | ⟨r, o, row, b1, b2, b3, b4⟩
 ·exact .inl h3
 ·cases hd : digs z.natAbs with
  | nil => left; rfl
  | cons d ds =>
   right
   rw [hd] at b4
   have h0 := b4 0 (u32 d) rfl
   have hne : ¬ X r := fun e => hX r row e b2 _ (List.mem_of_getElem? h0) _ _ rfl
   exact ⟨r, o, row, b1, by rw [hro r hne (Heap.get_lt b2)]; exact b2, b3, b4⟩
def zCell (e : List SV) : Prop := ∃ b s, e = [.bool b, .slice s]
theorem IsInt.cell {H : Heap} {e : List SV} {z : Int} (h : IsInt H (.agg e) z) : zCell e := by
 obtain ⟨sl, e1, ⟨s, rfl, _⟩, _⟩ := h
 cases e1
 exact ⟨_, _, rfl⟩
theorem zCells_flat {els : List (List SV)} (h : ∀ e ∈ els, zCell e) : ∀ c ∈ els.flatten, ∀ kd n, c ≠ .int kd n := fun c hc kd n => by
 obtain ⟨e, he, hce⟩ := List.mem_flatten.1 hc
 obtain ⟨b, s, rfl⟩ := h e he
 simp at hce
 rcases hce with rfl | rfl <;> simp
def slen : SV -> Nat
 | .slice s => s.len
 | _ => 0
def isSlice : SV -> Prop
 | .slice _ => True
 | _ => False
theorem len_slen {w : SV} (h : isSlice w) (k : K1) : slow.len w k = k (i64 (slen w)) := by
 cases w <;> simp only [isSlice] at h
 rfl
theorem IsZs.slen {H : Heap} {v : SV} {zs : List Int} (h : IsZs H v zs) : isSlice v /\ slen v = zs.length := by
 obtain ⟨els, ⟨s, rfl, h1, _⟩, h2, h3⟩ := h
 exact ⟨trivial, by rw [<- h2, <- h1]; rfl⟩
theorem Arr.slen {H : Heap} {v : SV} {cs : List SV} (h : Arr H v cs) : isSlice v /\ slen v = cs.length := by
 obtain ⟨s, rfl, h1, _⟩ := h
 exact ⟨trivial, h1⟩
theorem isSlice_not_int {c : SV} (h : isSlice c) (kd : IntKind) (n : Int) : c ≠ .int kd n := fun e => by subst e; exact h
theorem IsZs.keep {H H' : Heap} {v : SV} {zs : List Int} (h : IsZs H v zs) {X : Nat -> Prop} (hX : ∀ r row, X r -> H.get r = some row -> ∀ c ∈ row.cells, isSlice c) (hro : ∀ r, ¬ X r -> r < H.size -> H'.get r = H.get r) : IsZs H' v zs := by
 obtain ⟨els, h1, h2, h3⟩ := h
 refine ⟨els, ?_, h2, fun i e z he hz => (h3 i e z he hz).keep (fun r row hx hg c hc kd n => isSlice_not_int (hX r row hx hg c hc) kd n) hro⟩
 obtain ⟨s, rfl, g1, g0, g3⟩ := h1
 refine ⟨s, rfl, g1, g0, ?_⟩
 rcases g3 with g3 | ⟨r, o, row, b1, b2, b3, b4⟩
 ·exact .inl g3
 ·cases els with
  | nil => left; rfl
  | cons e els =>
   right
   obtain ⟨z, hz⟩ : ∃ z, zs[0]? = some z := ⟨_, List.getElem?_eq_getElem (by simp at h2; omega)⟩
   obtain ⟨b, s', rfl⟩ := (h3 0 e z rfl hz).cell
   have h0 := b4 0 _ rfl 0 _ rfl
   have hne : ¬ X r := fun hx => hX r row hx b2 _ (List.mem_of_getElem? h0)
   exact ⟨r, o, row, b1, by rw [hro r hne (Heap.get_lt b2)]; exact b2, b3, b4⟩
theorem Own.cells {lo : Nat} {H : Heap} {v : SV} {cs : List SV} (h : Own lo H v cs) {r : Nat} {row : Row} (hr : inRow v r) (hg : H.get r = some row) : row.cells = cs := by
 obtain ⟨base, rfl, h⟩ := h
 obtain ⟨s, o, e, h4⟩ := hr
 cases e
 rcases h with ⟨rfl, _⟩ | ⟨r', ver, rfl, h2, h3⟩
 ·cases h4
 ·cases h4; rw [h3] at hg; cases hg; rfl
theorem OwnS.cells {n lo : Nat} {H : Heap} {v : SV} {els : List (List SV)} (h : OwnS n lo H v els) {r : Nat} {row : Row} (hr : inRow v r) (hg : H.get r = some row) : row.cells = els.flatten := by
 obtain ⟨hn, base, rfl, h⟩ := h
 obtain ⟨s, o, e, h4⟩ := hr
 cases e
 rcases h with ⟨rfl, _⟩ | ⟨r', ver, rfl, h2, h3⟩
 ·cases h4
 ·cases h4; rw [h3] at hg; cases hg; rfl
def shapedB (ns : List Nat) : Bool := ns.all fun n => decide (ns.length <= 16) && (decide (1 <= n) && (decide (n <= 16) && decide (some n = ns[0]?)))
theorem nats_get {ns : List Nat} {i n : Nat} (h : ns[i]? = some n) : (ns.map i64)[i]? = some (i64 n) := by simp [h]
theorem shaped_loop (C : CallC) (K : Nat) {H : Heap} {v : SV} {ns : List Nat} (hv : Arr H v (ns.map i64)) (hb : ns.length < 100000) : ∀ (rest : List Nat) (i fuel : Nat), ns.drop i = rest -> rest.length < fuel ->
  slow.loop4 (f51_l1 slow K C) fuel v v (i64 ns.length) (i64 i) H = some (.bool (rest.all fun n => decide (ns.length <= 16) && (decide (1 <= n) && (decide (n <= 16) && decide (some n = ns[0]?)))), H)
 | [], i, fuel, hd, hf => by
  obtain ⟨fuel, rfl⟩ : ∃ m, fuel = m + 1 := ⟨fuel - 1, by omega⟩
  have hi : ¬ i < ns.length := by have := List.drop_eq_nil_iff.1 hd; omega
  rw [z_loop4]
  simp only [f51_l1, n_lss, decide_eq_false hi, z_cond, cond_false, List.all_nil]
 | n :: rest, i, fuel, hd, hf => by
  obtain ⟨fuel, rfl⟩ : ∃ m, fuel = m + 1 := ⟨fuel - 1, by omega⟩
  have hn : ns[i]? = some n := by
   have := congrArg List.head? hd
   rwa [List.head?_drop, List.head?_cons] at this
  have hi : i < ns.length := (List.getElem?_eq_some_iff.1 hn).1
  have hd' : ns.drop (i + 1) = rest := by rw [<- List.drop_drop, hd]; rfl
  obtain ⟨m, hm⟩ : ∃ m, ns[0]? = some m := ⟨_, List.getElem?_eq_getElem (by omega)⟩
  have h0 : ∀ k, slow.idx 1 v (.int .i64 0) (fun p => slow.load 1 false p H k) = k (i64 m) := fun k => hv.load (i := 0) (nats_get hm) .i64 k
  have hlen : ∀ k, slow.len v k = k (i64 ns.length) := fun k => by rw [hv.len]; simp
  rw [z_loop4]
  simp only [f51_l1, n_lss, decide_eq_true hi, z_cond, cond_true, hv.load (nats_get hn), hlen]
  rw [show (SV.int .i64 16) = i64 16 from rfl, n_gtr, z_guard]
  rw [List.all_cons]
  by_cases h1 : ns.length > 16
  ·rw [decide_eq_true h1, cond_true, decide_eq_false (show ¬ ns.length <= 16 by omega)]
   simp only [f51_j3, z_cond, cond_true, Bool.false_and]
  ·rw [decide_eq_false h1, cond_false, decide_eq_true (show ns.length <= 16 by omega), show (SV.int .i64 1) = i64 1 from rfl, n_lss, z_guard]
   by_cases h2 : n < 1
   ·rw [decide_eq_true h2, cond_true, decide_eq_false (show ¬ 1 <= n by omega)]
    simp only [f51_j3, z_cond, cond_true, Bool.false_and, Bool.and_false]
   ·rw [decide_eq_false h2, cond_false, decide_eq_true (show 1 <= n by omega), n_gtr, z_guard]
    by_cases h3 : n > 16
    ·rw [decide_eq_true h3, cond_true, decide_eq_false (show ¬ n <= 16 by omega)]
     simp only [f51_j3, z_cond, cond_true, Bool.false_and, Bool.and_false]
    ·rw [decide_eq_false h3, cond_false, decide_eq_true (show n <= 16 by omega), h0, n_neq]
     by_cases h4 : n ≠ m
     ·have h5 : ¬ (some n = ns[0]?) := by rw [hm]; intro e; exact h4 (Option.some.inj e)
      rw [decide_eq_true h4, decide_eq_false h5]
      simp only [f51_j3, z_cond, cond_true, Bool.false_and, Bool.and_false]
     ·have h5 : some n = ns[0]? := by rw [hm, Decidable.not_not.1 h4]
      rw [decide_eq_false h4, decide_eq_true h5]
      simp only [f51_j3, z_cond, cond_false, Bool.true_and]
      rw [show (SV.int .i64 1) = i64 1 from rfl, n_addi _ (by omega)]
      have ih := shaped_loop C K hv hb rest (i + 1) fuel hd' (by simp at hf; omega)
      rw [decide_eq_true (show ns.length <= 16 by omega)] at ih
      simp only [Bool.true_and] at ih
      exact ih
theorem shaped_ok (K : Nat) (d : Nat) (H : Heap) {v : SV} {ns : List Nat} (hv : Arr H v (ns.map i64)) (hb : ns.length < 100000) (hK : 100000 < K) : runQ wk tab slow K (d + 1) 51 [v] H = some (.bool (shapedB ns), H) := by
 show f51 slow K (runQ wk tab slow K d) v H = _
 simp only [f51, hv.len]
 rw [show (ns.map i64).length = ns.length by simp]
 exact shaped_loop _ K hv hb ns 0 K rfl (by omega)
def rowOfE (E : Nat -> Nat -> Int) (cols i : Nat) : List Int := (List.range cols).map (E i)
def matOfE (E : Nat -> Nat -> Int) (rows cols : Nat) : List (List Int) := (List.range rows).map (rowOfE E cols)
theorem rowOfE_get {E : Nat -> Nat -> Int} {cols i j : Nat} (h : j < cols) : (rowOfE E cols i)[j]? = some (E i j) := by simp [rowOfE, h]
theorem rowOfE_len (E : Nat -> Nat -> Int) (cols i : Nat) : (rowOfE E cols i).length = cols := by simp [rowOfE]
def EntryOk (C : CallC) (g : Nat) (caps : List SV) (H0 : Heap) (rows cols : Nat) (E : Nat -> Nat -> Int) : Prop :=
 ∀ i j H, i < rows -> j < cols -> Frame H0 H -> ∃ r H', C g ([] ++ ([i64 i, i64 j] ++ caps)) H = some (r, H') /\ Frame H H' /\ IsInt H' r (E i j)
theorem Own.geA {lo : Nat} {H : Heap} {v : SV} {cs : List SV} (h : Own lo H v cs) {r : Nat} (hr : inRow v r) : lo <= r := by
 obtain ⟨base, rfl, h⟩ := h
 obtain ⟨s, o, e, h4⟩ := hr
 cases e
 rcases h with ⟨rfl, _⟩ | ⟨r', ver, rfl, h2, h3⟩
 ·cases h4
 ·cases h4; exact h2
theorem OwnS.geA {n lo : Nat} {H : Heap} {v : SV} {els : List (List SV)} (h : OwnS n lo H v els) {r : Nat} (hr : inRow v r) : lo <= r := by
 obtain ⟨_, base, rfl, h⟩ := h
 obtain ⟨s, o, e, h4⟩ := hr
 cases e
 rcases h with ⟨rfl, _⟩ | ⟨r', ver, rfl, h2, h3⟩
 ·cases h4
 ·cases h4; exact h2
def IsMatF (lo : Nat) (H : Heap) (v : SV) (rows : List (List Int)) : Prop := ∃ w, v = .agg [w] /\ (∀ r, inRow w r -> lo <= r) /\ ∃ ws, Arr H w ws /\ ws.length = rows.length /\ ∀ (i : Nat) w zs, ws[i]? = some w -> rows[i]? = some zs -> IsZs H w zs /\ ∀ r, inRow w r -> lo <= r
theorem IsMatF.mat {lo : Nat} {H : Heap} {v : SV} {rows : List (List Int)} (h : IsMatF lo H v rows) : IsMat H v rows := by
 obtain ⟨w, e, _, ws, h1, h2, h3⟩ := h
 exact ⟨w, e, ws, h1, h2, fun i w zs hw hz => (h3 i w zs hw hz).1⟩
theorem IsMatF.mono {lo lo' : Nat} {H : Heap} {v : SV} {rows : List (List Int)} (h : IsMatF lo H v rows) (hl : lo' <= lo) : IsMatF lo' H v rows := by
 obtain ⟨w, e, h0, ws, h1, h2, h3⟩ := h
 exact ⟨w, e, fun r hr => Nat.le_trans hl (h0 r hr), ws, h1, h2, fun i w zs hw hz => ⟨(h3 i w zs hw hz).1, fun r hr => Nat.le_trans hl ((h3 i w zs hw hz).2 r hr)⟩⟩
theorem IsMatF.nil (lo : Nat) (H : Heap) : IsMatF lo H (.agg [.slice nilSl]) [] := ⟨_, rfl, (fun r hr => by obtain ⟨s, o, e, h⟩ := hr; cases e; cases h), [], Arr.nil H, rfl, fun i w zs hw => by simp at hw⟩
theorem made_in (C : CallC) (K : Nat) {g : Nat} {caps : List SV} {H0 Hi : Heap} {rows cols : Nat} (hcols : cols < 100000) (hrows : rows < 100000) {E : Nat -> Nat -> Int} (hE : EntryOk C g caps H0 rows cols E) (h0i : Frame H0 Hi) {lo : Nat} {l : SV} {ws : List SV} (hl : Own lo Hi l ws) (hlo : lo <= Hi.size) (hwl : ws.length < 100000) (hws : ∀ w ∈ ws, isSlice w) {i : Nat} (hi : i < rows) (bx : SV) (k8 : SV -> SV -> SV -> SV -> SV -> SV -> Heap -> Rs) {row : SV} : ∀ (m j fuel : Nat) (H : Heap) (els : List (List SV)), j + m = cols -> m < fuel -> Frame Hi H -> OwnS 2 Hi.size H row els -> els.length = cols -> (∀ e ∈ els, zCell e) -> (∀ q e, q < j -> els[q]? = some e -> IsInt H (.agg e) (E i q)) ->
  ∃ l' H', slow.loop10 (f53_l3 slow K C k8) fuel (i64 cols) (.fn g [] caps) bx l (i64 i) row (i64 rows) (i64 i) (i64 cols) (i64 j) H = k8 (i64 cols) (.fn g [] caps) bx l' (i64 rows) (i64 (i + 1)) H' /\ Fr lo Hi H' /\ (∀ r, ¬ inRow l r -> r < Hi.size -> H'.get r = Hi.get r) /\ ∃ w, Own lo H' l' (ws ++ [w]) /\ IsZs H' w (rowOfE E cols i) /\ isSlice w /\ w = row
 | 0, j, fuel, H, els, hjm, hf, hfr, ho, hel, hcell, hdone => by
  obtain ⟨fuel, rfl⟩ : ∃ m, fuel = m + 1 := ⟨fuel - 1, by omega⟩
  have hj : j = cols := by omega
  subst hj
  have hz : IsZs H row (rowOfE E j i) := ⟨els, ho.arr, by rw [rowOfE_len, hel], fun q e z he hz => by
   have hq : q < j := by have := (List.getElem?_eq_some_iff.1 he).1; omega
   rw [rowOfE_get hq] at hz
   cases hz
   exact hdone q e hq he⟩
  obtain ⟨u, H1, hu, hou, hfu, hru, hsz⟩ := z_lay1 (H := H) (lo := H.size) (Nat.le_refl _) (.slice nilSl) (x := row) hz.flat
  have hl1 := (hl.fr hfr).fr hfu
  obtain ⟨l', H2, ha, ho2, hf2, hrw, hin, _⟩ := hl1.append (Nat.le_trans hlo (Nat.le_trans hfr.size hfu.size)) hou.arr (by_ := 24) (roomy_small (by simp; omega))
  refine ⟨l', H2, ?_, ?_, ?_, row, ho2, ?_, hz.slen.1, rfl⟩
  ·rw [z_loop10]
   have hlt : ¬ j < j := Nat.lt_irrefl j
   simp only [f53_l3, n_lss, decide_eq_false hlt, z_cond, cond_false, hu, ha]
   rw [show (SV.int .i64 1) = i64 1 from rfl, n_addi _ (by omega)]
  ·exact ((hfr.mono hlo).trans (hfu.mono (Nat.le_trans hlo hfr.size))).trans hf2
  ·intro r hr hlt
   have hrH : r < H.size := Nat.lt_of_lt_of_le hlt hfr.size
   rw [hrw r hr (Nat.lt_of_lt_of_le hrH hfu.size), hfu.rows r hrH, hfr.rows r hlt]
  ·refine (hz.fr hfu).keep (X := fun r => inRow l r) (fun r rw hr hg c hc => ?_) hrw
   have := Own.cells hl1 hr hg
   rw [this] at hc
   exact hws c hc
 | m + 1, j, fuel, H, els, hjm, hf, hfr, ho, hel, hcell, hdone => by
  obtain ⟨fuel, rfl⟩ : ∃ m, fuel = m + 1 := ⟨fuel - 1, by omega⟩
  have hlt : j < cols := by omega
  obtain ⟨r, H1, h1, f1, hr⟩ := hE i j H hi hlt (Frame.trans h0i hfr)
  obtain ⟨sl, rfl, hsl, hslf⟩ := hr
  have hint : IsInt H1 (.agg [.bool (decide (E i j < 0)), sl]) (E i j) := ⟨sl, rfl, hsl, hslf⟩
  have ho1 := ho.fr f1
  obtain ⟨H2, st, ho2, f2, sz2, hro⟩ := ho1.store (i := j) (by omega) (e := [.bool (decide (E i j < 0)), sl]) rfl .i64
  have hX : ∀ r row', inRow row r -> H1.get r = some row' -> ∀ c ∈ row'.cells, ∀ kd n, c ≠ .int kd n := fun r row' hr hg => by
   rw [OwnS.cells ho1 hr hg]
   exact zCells_flat hcell
  obtain ⟨l', H3, h3, h4, h5, h6⟩ := made_in C K hcols hrows hE h0i hl hlo hwl hws hi bx k8 m (j + 1) fuel H2 (els.set j [.bool (decide (E i j < 0)), sl]) (by omega) (by omega) (Fr.trans (Frame.trans hfr f1) f2) ho2 (by simpa using hel) (fun e he => by
   rcases List.mem_or_eq_of_mem_set he with he | rfl
   ·exact hcell e he
   ·exact hint.cell) (fun q e hq he => by
    by_cases hqj : q = j
    ·subst hqj
     rw [List.getElem?_set_self (by omega)] at he
     cases he
     exact hint.keep hX fun r hr _ => hro r hr
    ·rw [List.getElem?_set_ne (Ne.symm hqj)] at he
     exact ((hdone q e (by omega) he).fr f1).keep hX fun r hr _ => hro r hr)
  refine ⟨l', H3, ?_, h4, h5, h6⟩
  rw [z_loop10]
  simp only [f53_l3, n_lss, decide_eq_true hlt, z_cond, cond_true, z_callv, h1, z_call, st]
  rw [show (SV.int .i64 1) = i64 1 from rfl, n_addi _ (by omega)]
  exact h3
theorem made_out (C : CallC) (K : Nat) (hK : 100000 < K) {g : Nat} {caps : List SV} {H0 : Heap} {rows cols : Nat} (hcols : cols < 100000) (hrows : rows < 100000) {E : Nat -> Nat -> Int} (hE : EntryOk C g caps H0 rows cols E) : ∀ (m i fuel : Nat) (H : Heap) (l : SV) (ws : List SV), i + m = rows -> m < fuel -> Frame H0 H -> Own H0.size H l ws -> ws.length = i -> (∀ w ∈ ws, isSlice w) -> (∀ q w, ws[q]? = some w -> IsZs H w (rowOfE E cols q) /\ ∀ r, inRow w r -> H0.size <= r) ->
  ∃ r H', slow.loop6 (f53_l1 slow K C) fuel (i64 cols) (.fn g [] caps) (.box [.slice nilSl]) l (i64 rows) (i64 i) H = some (r, H') /\ Frame H0 H' /\ IsMatF H0.size H' r (matOfE E rows cols)
 | 0, i, fuel, H, l, ws, him, hf, hfr, ho, hwl, hws, hdone => by
  obtain ⟨fuel, rfl⟩ : ∃ m, fuel = m + 1 := ⟨fuel - 1, by omega⟩
  have hi : i = rows := by omega
  subst hi
  refine ⟨.agg [l], H, ?_, hfr, l, rfl, fun r hr => Own.geA ho hr, ws, ho.arr, by simp [matOfE, hwl], fun q w zs hw hz => ?_⟩
  ·rw [z_loop6]
   have hlt : ¬ i < i := Nat.lt_irrefl i
   simp only [f53_l1, n_lss, decide_eq_false hlt, z_cond, cond_false, z_build1 _ _ ho.arr.flat, z_bst1, z_resc1]
  ·have hq : q < i := by have := (List.getElem?_eq_some_iff.1 hw).1; omega
   simp [matOfE, hq] at hz
   subst hz
   exact hdone q w hw
 | m + 1, i, fuel, H, l, ws, him, hf, hfr, ho, hwl, hws, hdone => by
  obtain ⟨fuel, rfl⟩ : ∃ m, fuel = m + 1 := ⟨fuel - 1, by omega⟩
  have hlt : i < rows := by omega
  obtain ⟨row, H1, h1, ho1, f1, hin1, sz1⟩ := z_makeS (H := H) (lo := H.size) (Nat.le_refl _) 2 32 (by decide) [.bool false, .slice nilSl] rfl cols (by omega) (roomy_small (by omega)) .i64 .i64
  obtain ⟨l', H2, h2, f2, hro2, w, ho2, hz2, hs2, hwr⟩ := made_in C K hcols hrows hE hfr (Hi := H) ho hfr.size (by omega) hws hlt (.box [.slice nilSl]) (slow.loop6 (f53_l1 slow K C) fuel) (row := row) cols 0 K H1 (List.replicate cols [.bool false, .slice nilSl]) (by omega) (by omega) f1 ho1 (by simp) (fun e he => by rw [List.eq_of_mem_replicate he]; exact ⟨_, _, rfl⟩) (fun q e hq => by omega)
  obtain ⟨r, H3, h3, f3, hm⟩ := made_out C K hK hcols hrows hE m (i + 1) fuel H2 l' (ws ++ [w]) (by omega) (by omega) (Fr.trans hfr f2) ho2 (by simp [hwl]) (fun v hv => by
   rcases List.mem_append.1 hv with hv | hv
   ·exact hws v hv
   ·rw [List.mem_singleton.1 hv]; exact hs2) (fun q v hv => by
    by_cases hq : q < ws.length
    ·rw [List.getElem?_append_left hq] at hv
     exact ⟨(hdone q v hv).1.keep (X := fun r => inRow l r) (fun r rw hr hg c hc => by rw [Own.cells ho hr hg] at hc; exact hws c hc) hro2, (hdone q v hv).2⟩
    ·have hq2 : q = ws.length := by have := (List.getElem?_eq_some_iff.1 hv).1; simp at this; omega
     subst hq2
     simp at hv
     subst hv
     rw [hwl]; exact ⟨hz2, fun r hr => Nat.le_trans hfr.size (OwnS.geA ho1 (hwr ▸ hr))⟩)
  refine ⟨r, H3, ?_, f3, hm⟩
  rw [z_loop6]
  simp only [f53_l1, n_lss, decide_eq_true hlt, z_cond, cond_true, h1]
  rw [ho1.arr.len, List.length_replicate, show (SV.int .i64 0) = i64 0 from rfl, h2]
  exact h3
theorem made_ok (K : Nat) (hK : 100000 < K) (d : Nat) {g : Nat} {caps : List SV} {H0 : Heap} {rows cols : Nat} (hcols : cols < 100000) (hrows : rows < 100000) {E : Nat -> Nat -> Int} (hE : EntryOk (runQ wk tab slow K d) g caps H0 rows cols E) :
  ∃ r H', runQ wk tab slow K (d + 1) 53 [i64 rows, i64 cols, .fn g [] caps] H0 = some (r, H') /\ Frame H0 H' /\ IsMatF H0.size H' r (matOfE E rows cols) := by
 show ∃ r H', f53 slow K (runQ wk tab slow K d) (i64 rows) (i64 cols) (.fn g [] caps) H0 = _ /\ _
 exact made_out _ K hK hcols hrows hE rows 0 K H0 (.slice nilSl) [] (by omega) (by omega) (Fr.refl _ _) (Own.nil _ _) rfl (fun w hw => by cases hw) (fun q w hw => by simp at hw)
end Go.Sh.Of
namespace Go.Sh.Of
open Go
theorem push1 {lo : Nat} {H : Heap} {t : SV} {cs : List SV} (h : Own lo H t cs) (hl : lo <= H.size) (z : SV) {x : SV} (hx : x.flat = true) {by_ : Nat} (hr : roomy (cs.length + 1) by_ = true) :
  ∃ t' H', (∀ k, slow.hbuild 1 [z] [(0, 1)] [x] H (fun u H1 => slow.append 1 by_ t u H1 k) = k t' H') /\ Own lo H' t' (cs ++ [x]) /\ Fr lo H H' /\ (∀ r, ¬ inRow t r -> r < H.size -> H'.get r = H.get r) := by
 obtain ⟨u, H1, hu, hou, hfu, hru, hsz⟩ := z_lay1 (H := H) (lo := H.size) (Nat.le_refl _) z hx
 obtain ⟨t', H2, ha, ho2, hf2, hrw, _, _⟩ := (h.fr hfu).append (Nat.le_trans hl hfu.size) hou.arr (by_ := by_) hr
 exact ⟨t', H2, fun k => by rw [hu, ha], ho2, (hfu.mono hl).trans hf2, fun r hn hlt => by rw [hrw r hn (Nat.lt_of_lt_of_le hlt hfu.size), hfu.rows r hlt]⟩
theorem pushS {n lo : Nat} (hn : 0 < n) (hn' : n <= 1000) {H : Heap} {t : SV} {els : List (List SV)} (h : OwnS n lo H t els) (hl : lo <= H.size) (z : List SV) (hz : z.length = n) {e : List SV} (he : e.length = n) {by_ : Nat} (hr : roomy (els.length + 1) by_ = true) :
  ∃ t' H', (∀ k, slow.hbuild n z [(0, n)] [.agg e] H (fun u H1 => slow.append n by_ t u H1 k) = k t' H') /\ OwnS n lo H' t' (els ++ [e]) /\ Fr lo H H' /\ (∀ r, ¬ inRow t r -> r < H.size -> H'.get r = H.get r) := by
 obtain ⟨u, H1, hu, hou, hfu, hru, hsz⟩ := z_layS (H := H) (lo := H.size) (Nat.le_refl _) n hn hn' z hz he
 obtain ⟨t', H2, ha, ho2, hf2, hrw, _⟩ := OwnS.append hn (h.fr hfu) (Nat.le_trans hl hfu.size) hou.arr (by_ := by_) hr
 exact ⟨t', H2, fun k => by rw [hu, ha], ho2, (hfu.mono hl).trans hf2, fun r hn hlt => by rw [hrw r hn (Nat.lt_of_lt_of_le hlt hfu.size), hfu.rows r hlt]⟩
def IsRowsC (H : Heap) (v : SV) (rows : List (List SV)) : Prop := ∃ ws, Arr H v ws /\ ws.length = rows.length /\ ∀ (i : Nat) w cs, ws[i]? = some w -> rows[i]? = some cs -> Arr H w cs
theorem IsRowsC.fr {H H' : Heap} {v : SV} {rows : List (List SV)} (h : IsRowsC H v rows) (hf : Frame H H') : IsRowsC H' v rows := by
 obtain ⟨ws, h1, h2, h3⟩ := h
 exact ⟨ws, h1.fr hf, h2, fun i w zs hw hz => (h3 i w zs hw hz).fr hf⟩
theorem IsRowsC.len {H : Heap} {v : SV} {rows : List (List SV)} (h : IsRowsC H v rows) (k : K1) : slow.len v k = k (i64 rows.length) := by
 obtain ⟨ws, h1, h2, h3⟩ := h
 rw [h1.len, h2]
theorem IsRowsC.load {H : Heap} {v : SV} {rows : List (List SV)} (h : IsRowsC H v rows) {i : Nat} {cs : List SV} (hz : rows[i]? = some cs) : ∃ w, (∀ kd k, slow.idx 1 v (.int kd i) (fun p => slow.load 1 false p H k) = k w) /\ Arr H w cs := by
 obtain ⟨ws, h1, h2, h3⟩ := h
 have hi := (List.getElem?_eq_some_iff.1 hz).1
 obtain ⟨w, hw⟩ : ∃ w, ws[i]? = some w := ⟨_, List.getElem?_eq_getElem (by omega)⟩
 exact ⟨w, fun kd k => h1.load hw kd k, h3 i w cs hw hz⟩
theorem IsRowsC.flat {H : Heap} {v : SV} {rows : List (List SV)} (h : IsRowsC H v rows) : v.flat = true := by
 obtain ⟨ws, h1, h2, h3⟩ := h
 exact h1.flat
abbrev IsInts2 (H : Heap) (v : SV) (rows : List (List Int)) : Prop := IsRowsC H v (rows.map (intsL .i64))
theorem Arr.keep {H H' : Heap} {v : SV} {cs : List SV} (h : Arr H v cs) (hcs : ∀ c ∈ cs, ¬ isSlice c) {X : Nat -> Prop} (hX : ∀ r row, X r -> H.get r = some row -> ∀ c ∈ row.cells, isSlice c) (hro : ∀ r, ¬ X r -> r < H.size -> H'.get r = H.get r) : Arr H' v cs := by
 obtain ⟨s, rfl, h2, h3⟩ := h
 refine ⟨s, rfl, h2, ?_⟩
 rcases h3 with h3 | ⟨r, o, row, b1, b2, b3, b4⟩
 ·exact .inl h3
 ·cases cs with
  | nil => left; rfl
  | cons c cs =>
   right
   have h0 := b4 0 c rfl
   have hne : ¬ X r := fun hx => hcs c (by simp) (hX r row hx b2 _ (List.mem_of_getElem? h0))
   exact ⟨r, o, row, b1, by rw [hro r hne (Heap.get_lt b2)]; exact b2, b3, b4⟩
theorem Arr.isSlice {H : Heap} {v : SV} {cs : List SV} (h : Arr H v cs) : isSlice v := (Arr.slen h).1
end Go.Sh.Of
namespace Go.Sh.Of
open Go
theorem lengthsI_loop (C : CallC) (K : Nat) {H0 : Heap} {v : SV} {ws : List SV} (hv : Arr H0 v ws) (hws : ∀ w ∈ ws, isSlice w) (hl : ws.length < 100000000) : ∀ (m i fuel : Nat) (H : Heap) (o : SV), i + m = ws.length -> m < fuel -> Frame H0 H -> Own H0.size H o ((ws.take i).map fun w => i64 (slen w)) ->
  ∃ r H', slow.loop4 (f52_l1 slow K C) fuel v o (i64 ws.length) (i64 i) H = some (r, H') /\ Frame H0 H' /\ Arr H' r ((ws.map slen).map i64)
 | 0, i, fuel, H, o, him, hf, hfr, ho => by
  obtain ⟨fuel, rfl⟩ : ∃ m, fuel = m + 1 := ⟨fuel - 1, by omega⟩
  have hi : i = ws.length := by omega
  subst hi
  rw [List.take_length] at ho
  refine ⟨o, H, ?_, hfr, by rw [List.map_map]; exact ho.arr⟩
  rw [z_loop4]
  have hlt : ¬ ws.length < ws.length := Nat.lt_irrefl _
  simp only [f52_l1, n_lss, decide_eq_false hlt, z_cond, cond_false, z_rest ho.arr.good]
 | m + 1, i, fuel, H, o, him, hf, hfr, ho => by
  obtain ⟨fuel, rfl⟩ : ∃ m, fuel = m + 1 := ⟨fuel - 1, by omega⟩
  have hlt : i < ws.length := by omega
  obtain ⟨w, hw⟩ : ∃ w, ws[i]? = some w := ⟨_, List.getElem?_eq_getElem hlt⟩
  obtain ⟨o', H1, ha, ho1, f1, _⟩ := push1 ho hfr.size (.int .i64 0) (x := i64 (slen w)) rfl (by_ := 8) (roomy_small (by simp; omega))
  have e1 : ((ws.take i).map fun w => i64 (slen w)) ++ [i64 (slen w)] = (ws.take (i + 1)).map fun w => i64 (slen w) := by
   rw [List.take_add_one, hw]; simp
  rw [e1] at ho1
  obtain ⟨r, H2, h2, f2, a2⟩ := lengthsI_loop C K hv hws hl m (i + 1) fuel H1 o' (by omega) (by omega) (Fr.trans hfr f1) ho1
  refine ⟨r, H2, ?_, f2, a2⟩
  rw [z_loop4]
  simp only [f52_l1, n_lss, decide_eq_true hlt, z_cond, cond_true, (hv.fr hfr).load hw, len_slen (hws w (List.mem_of_getElem? hw)), ha]
  rw [show (SV.int .i64 1) = i64 1 from rfl, n_addi _ (by omega)]
  exact h2
theorem lengthsI_ok (K : Nat) (d : Nat) (H : Heap) {v : SV} {ws : List SV} (hv : Arr H v ws) (hws : ∀ w ∈ ws, isSlice w) (hl : ws.length < 100000000) (hK : ws.length < K) :
  ∃ r H', runQ wk tab slow K (d + 1) 52 [v] H = some (r, H') /\ Frame H H' /\ Arr H' r ((ws.map slen).map i64) := by
 show ∃ r H', f52 slow K (runQ wk tab slow K d) v H = _ /\ _
 simp only [f52, hv.len]
 exact lengthsI_loop _ K hv hws hl ws.length 0 K H (.slice nilSl) (by omega) hK (Fr.refl _ _) (by simpa using Own.nil H.size H)
end Go.Sh.Of
namespace Go.Sh.Of
open Go
end Go.Sh.Of
namespace Go.Sh.Of
open Go
def ent (rows : List (List Int)) (i j : Nat) : Int := (((rows[i]?).getD [])[j]?).getD 0
def colsOf (rows : List (List Int)) : Nat := ((rows[0]?).getD []).length
theorem ent_get {rows : List (List Int)} {i j : Nat} {r : List Int} {z : Int} (hr : rows[i]? = some r) (hz : r[j]? = some z) : ent rows i j = z := by simp [ent, hr, hz]
def Shaped (rows : List (List Int)) : Prop := rows.length <= 16 /\ ∀ r ∈ rows, 1 <= r.length /\ r.length <= 16 /\ r.length = colsOf rows
theorem shapedB_iff {rows : List (List Int)} : shapedB (rows.map List.length) = true ↔ rows = [] \/ Shaped rows := by
 unfold shapedB Shaped
 rw [List.all_eq_true]
 cases rows with
 | nil => simp
 | cons r0 rows =>
  have hc : colsOf (r0 :: rows) = r0.length := rfl
  simp only [List.length_map, List.map_cons, List.getElem?_cons_zero, Bool.and_eq_true, decide_eq_true_eq, Option.some.injEq, hc]
  constructor
  ·intro h
   right
   refine ⟨by simpa using (h r0.length (by simp)).1, fun r hr => ?_⟩
   have := h r.length (by
    rcases List.mem_cons.1 hr with rfl | hr
    ·simp
    ·exact List.mem_cons_of_mem _ (List.mem_map_of_mem hr))
   exact ⟨this.2.1, this.2.2.1, this.2.2.2⟩
  ·rintro (h | ⟨h1, h2⟩)
   ·cases h
   ·intro n hn
    obtain ⟨r, hr, rfl⟩ : ∃ r ∈ r0 :: rows, r.length = n := by
     rcases List.mem_cons.1 hn with rfl | hn
     ·exact ⟨r0, by simp, rfl⟩
     ·obtain ⟨r, hr, rfl⟩ := List.mem_map.1 hn
      exact ⟨r, by simp [hr], rfl⟩
    have := h2 r hr
    exact ⟨by simpa using h1, this.1, this.2.1, this.2.2⟩
theorem matOfE_self {rows : List (List Int)} (h : ∀ r ∈ rows, r.length = colsOf rows) : matOfE (ent rows) rows.length (colsOf rows) = rows := by
 apply List.ext_getElem?
 intro i
 by_cases hi : i < rows.length
 ·have hr : rows[i]? = some rows[i] := List.getElem?_eq_getElem hi
  have hl := h rows[i] (List.getElem_mem hi)
  simp only [matOfE, List.getElem?_map, List.getElem?_range hi, Option.map_some]
  rw [hr]
  congr 1
  apply List.ext_getElem?
  intro j
  by_cases hj : j < colsOf rows
  ·have hz : (rows[i])[j]? = some (rows[i])[j] := List.getElem?_eq_getElem (by omega)
   rw [rowOfE_get hj, hz, ent_get hr hz]
  ·rw [List.getElem?_eq_none (by rw [rowOfE_len]; omega), List.getElem?_eq_none (by omega)]
 ·rw [List.getElem?_eq_none (by simp [matOfE]; omega), List.getElem?_eq_none (by omega)]
def ofErr (rows : List (List Int)) : Int := if shapedB (rows.map List.length) then 0 else 5
def ofMat (rows : List (List Int)) : List (List Int) := if shapedB (rows.map List.length) then rows else []
theorem slices_map {ws : List SV} {ns : List Nat} (hl : ws.length = ns.length) (h : ∀ (i : Nat) (w : SV) (n : Nat), ws[i]? = some w -> ns[i]? = some n -> slen w = n) : ws.map slen = ns := by
 apply List.ext_getElem?
 intro i
 rw [List.getElem?_map]
 by_cases hi : i < ws.length
 ·have h1 : ws[i]? = some ws[i] := List.getElem?_eq_getElem hi
  have h2 : ns[i]? = some ns[i] := List.getElem?_eq_getElem (by omega)
  rw [h1, h2, Option.map_some, h i _ _ h1 h2]
 ·rw [List.getElem?_eq_none (by omega), List.getElem?_eq_none (by omega)]; rfl
theorem mof_entry (K : Nat) (hK : 2 < K) (d : Nat) {H0 : Heap} {p v : SV} {rows : List (List Int)} (hp : Holds H0 p v) (hv : IsInts2 H0 v rows) (hsm : ∀ r ∈ rows, ∀ z ∈ r, I64 z) (hcol : ∀ r ∈ rows, r.length = colsOf rows) :
  EntryOk (runQ wk tab slow K (d + 4)) 54 [p] H0 rows.length (colsOf rows) (ent rows) := fun i j H hi hj hf => by
 obtain ⟨r, hr⟩ : ∃ r, rows[i]? = some r := ⟨_, List.getElem?_eq_getElem hi⟩
 have hl := hcol r (List.mem_of_getElem? hr)
 obtain ⟨z, hz⟩ : ∃ z, r[j]? = some z := ⟨_, List.getElem?_eq_getElem (by omega)⟩
 have hs := hsm r (List.mem_of_getElem? hr) z (List.mem_of_getElem? hz)
 obtain ⟨w, hw, ha⟩ := (hv.fr hf).load (i := i) (cs := intsL .i64 r) (by simp [hr])
 obtain ⟨q, H1, h1, f1, hq⟩ := zof_ok K hK (d + 0) H hs.1 hs.2
 rw [ent_get hr hz]
 obtain ⟨sl, rfl, h2, h3⟩ := hq
 show ∃ r H', f54 slow K (runQ wk tab slow K (d + 3)) (i64 i) (i64 j) p H = _ /\ _
 refine ⟨_, H1, ?_, f1, sl, rfl, h2, h3⟩
 simp only [f54, (hp.fr hf).load, hw, ha.load (ints_get hz), h1, z_call, z_bst2, z_resc2]
theorem mof_ok (K : Nat) (hK : 100000 < K) (d : Nat) (H : Heap) {v : SV} {rows : List (List Int)} (hv : IsInts2 H v rows) (hsm : ∀ r ∈ rows, ∀ z ∈ r, I64 z) (hrl : rows.length < 100000) :
  ∃ r H', runQ wk tab slow K (d + 6) 31 [v] H = some (.tuple [r, .int .i64 (ofErr rows)], H') /\ Frame H H' /\ IsMatF H.size H' r (ofMat rows) := by
 show ∃ r H', f31 slow K (runQ wk tab slow K (d + 5)) v H = _ /\ _
 obtain ⟨p, H1, hb, f1, hp, hpg⟩ := z_boxH hv.flat H
 have hv1 := hv.fr f1
 obtain ⟨ws, hws, hwl, hwr⟩ := hv1
 have hwl' : ws.length = rows.length := by simpa using hwl
 have hwr' : ∀ (i : Nat) w r, ws[i]? = some w -> rows[i]? = some r -> isSlice w /\ slen w = r.length := fun i w r hw hr => by have := Arr.slen (hwr i w (intsL .i64 r) hw (by simp [hr])); simpa using this
 have hsl : ∀ w ∈ ws, isSlice w := fun w hw => by
  obtain ⟨i, hi⟩ := List.getElem?_of_mem hw
  obtain ⟨r, hr⟩ : ∃ r, rows[i]? = some r := ⟨_, List.getElem?_eq_getElem (by have := (List.getElem?_eq_some_iff.1 hi).1; omega)⟩
  exact (hwr' i w r hi hr).1
 obtain ⟨u, H2, h2, f2, a2⟩ := lengthsI_ok K (d + 4) H1 hws hsl (by omega) (by omega)
 have hmap : ws.map slen = rows.map List.length := slices_map (by simp [hwl']) fun i w n hw hn => by
  rw [List.getElem?_map, Option.map_eq_some_iff] at hn
  obtain ⟨r, hr, rfl⟩ := hn
  exact (hwr' i w r hw hr).2
 rw [hmap] at a2
 have h3 := shaped_ok K (d + 4) H2 a2 (by simp; omega) hK
 have fq12 := Frame.trans f1 f2
 have hp2 := hp.fr f2
 have hws2 := hws.fr f2
 have hlen : ∀ k, slow.len v k = k (i64 rows.length) := fun k => by rw [hws2.len, hwl']
 simp only [f31, hb, hp.load, h2, z_call, h3, z_not, z_cond]
 cases hsh : shapedB (rows.map List.length) with
 | false =>
  have e1 : ofErr rows = 5 := by unfold ofErr; rw [hsh]; rfl
  have e2 : ofMat rows = [] := by unfold ofMat; rw [hsh]; rfl
  rw [e1, e2]
  simp only [Bool.not_false, cond_true, z_build0, z_bst1, z_resc1]
  exact ⟨_, H2, rfl, fq12, IsMatF.nil _ H2⟩
 | true =>
  have e1 : ofErr rows = 0 := by unfold ofErr; rw [hsh]; rfl
  have e2 : ofMat rows = rows := by unfold ofMat; rw [hsh]; rfl
  rw [e1, e2]
  simp only [Bool.not_true, cond_false, hp2.load, hlen, z_eql, z_cond]
  by_cases h0 : rows = []
  ·have hz : ((rows.length : Int) == 0) = true := by rw [h0]; rfl
   simp only [hz, cond_true, z_build0, z_bst1, z_resc1]
   rw [h0]
   exact ⟨_, H2, rfl, fq12, IsMatF.nil _ H2⟩
  ·have hpos := List.length_pos_iff.2 h0
   have hz : ((rows.length : Int) == 0) = false := beq_eq_false_iff_ne.2 (by omega)
   obtain ⟨g1, g2⟩ := (shapedB_iff.1 hsh).resolve_left h0
   have hcol : ∀ r ∈ rows, r.length = colsOf rows := fun r hr => (g2 r hr).2.2
   obtain ⟨r0, hr0⟩ : ∃ r, rows[0]? = some r := ⟨_, List.getElem?_eq_getElem hpos⟩
   obtain ⟨w0, hw0⟩ : ∃ w, ws[0]? = some w := ⟨_, List.getElem?_eq_getElem (by omega)⟩
   have hc0 : colsOf rows = r0.length := by simp [colsOf, hr0]
   have hl0 : ∀ k, slow.len w0 k = k (i64 (colsOf rows)) := fun k => by
    rw [len_slen (hwr' 0 w0 r0 hw0 hr0).1, (hwr' 0 w0 r0 hw0 hr0).2, hc0]
   have hld : ∀ k, slow.idx 1 v (.int .i64 0) (fun p => slow.load 1 false p H2 k) = k w0 := fun k => hws2.load (i := 0) hw0 .i64 k
   have hc16 : colsOf rows <= 16 := by rw [hc0]; exact (g2 r0 (List.mem_of_getElem? hr0)).2.1
   obtain ⟨q, H3, h4, f3, hm⟩ := made_ok K hK (d + 4) (H0 := H2) (rows := rows.length) (cols := colsOf rows) (by omega) (by omega) (mof_entry K (by omega) d hp2 (hv.fr fq12) hsm hcol)
   rw [matOfE_self hcol] at hm
   obtain ⟨mw, rfl, hmr⟩ := hm
   simp only [hz, cond_false, hld, hl0, z_mkfn0 _ hpg, h4, z_call, z_bst1, z_resc1]
   exact ⟨_, H3, rfl, Frame.trans fq12 f3, IsMatF.mono ⟨mw, rfl, hmr⟩ fq12.size⟩
end Go.Sh.Of
namespace Go.Sh.Of
open Go
theorem Arr.keepG {H H' : Heap} {v : SV} {cs : List SV} (h : Arr H v cs) {X : Nat -> Prop} (hX : ∀ c0 ∈ cs, ∀ r row, X r -> H.get r = some row -> ∀ c ∈ row.cells, c ≠ c0) (hro : ∀ r, ¬ X r -> r < H.size -> H'.get r = H.get r) : Arr H' v cs := by
 obtain ⟨s, rfl, h2, h3⟩ := h
 refine ⟨s, rfl, h2, ?_⟩
 rcases h3 with h3 | ⟨r, o, row, b1, b2, b3, b4⟩
 ·exact .inl h3
 ·cases cs with
  | nil => left; rfl
  | cons c cs =>
   right
   have h0 := b4 0 c rfl
   have hne : ¬ X r := fun hx => hX c (by simp) r row hx b2 _ (List.mem_of_getElem? h0) rfl
   exact ⟨r, o, row, b1, by rw [hro r hne (Heap.get_lt b2)]; exact b2, b3, b4⟩
def Box (q : Nat) (H : Heap) (st : Int) : Prop := ∃ ver, H.get q = some ⟨2, 1, ver, [.int .i64 st]⟩
theorem Box.holds {q : Nat} {H : Heap} {st : Int} (h : Box q H st) : Holds H (.ptr (q, 0)) (.int .i64 st) := by
 obtain ⟨ver, hv⟩ := h
 exact ⟨q, _, rfl, hv, by simp, rfl⟩
theorem Box.store {q : Nat} {H : Heap} {st : Int} (h : Box q H st) (st' : Int) : ∃ H', (∀ k, slow.store 1 (.ptr (q, 0)) (.int .i64 st') H k = k H') /\ Box q H' st' /\ H'.size = H.size /\ ∀ r, r ≠ q -> H'.get r = H.get r := by
 obtain ⟨ver, hv⟩ := h
 refine ⟨H.set q ⟨2, 1, ver + 1, [.int .i64 st']⟩, fun k => ?_, ⟨ver + 1, Heap.get_set_self hv _⟩, rfl, fun r hr => Heap.get_set_ne _ (Ne.symm hr) _⟩
 show (opE (.store 1) [.ptr (q, 0), .int .i64 st'] H).bind _ = _
 have hb1 : Nat.beq ([SV.int .i64 st'] : List SV).length 1 = true := rfl
 have hb2 : Nat.beq 2 2 = true := rfl
 simp only [opE, SV.item, SV.cells, SV.flat, hb1, Bool.true_and, Bool.and_true, cond_true, Heap.write, hv, hb2, splice_one (cs := [SV.int .i64 st]) (i := 0) (by simp) (.int .i64 st'), Option.map_some, Option.bind_some, List.set_cons_zero]
end Go.Sh.Of
namespace Go.Sh.Of
open Go
theorem matOfE_len (E : Nat -> Nat -> Int) (n k : Nat) : (matOfE E n k).length = n := by simp [matOfE]
theorem matOfE_get {E : Nat -> Nat -> Int} {n k i : Nat} (h : i < n) : (matOfE E n k)[i]? = some (rowOfE E k i) := by simp [matOfE, h]
theorem ent_matOfE {E : Nat -> Nat -> Int} {n k i j : Nat} (hi : i < n) (hj : j < k) : ent (matOfE E n k) i j = E i j := ent_get (matOfE_get hi) (rowOfE_get hj)
theorem colsOf_matOfE {E : Nat -> Nat -> Int} {n k : Nat} (h : 0 < n) : colsOf (matOfE E n k) = k := by
 unfold colsOf
 rw [matOfE_get h, Option.getD_some, rowOfE_len]
structure Good (A : List (List Int)) : Prop where
 rect : ∀ r ∈ A, r.length = colsOf A
 cols : A ≠ [] -> 1 <= colsOf A /\ colsOf A <= 16
 rows : A.length <= 16
 big : ∀ r ∈ A, ∀ z ∈ r, z.natAbs < 2 ^ 4096
theorem Good.nil : Good [] := ⟨(fun r hr => by cases hr), (fun h => absurd rfl h), by simp, (fun r hr => by cases hr)⟩
theorem Good.c16 {A : List (List Int)} (h : Good A) : colsOf A <= 16 := by
 by_cases ha : A = []
 ·subst ha; simp [colsOf]
 ·exact (h.cols ha).2
theorem Good.at {A : List (List Int)} (h : Good A) {i j : Nat} (hi : i < A.length) (hj : j < colsOf A) : ∃ r, A[i]? = some r /\ r[j]? = some (ent A i j) /\ (ent A i j).natAbs < 2 ^ 4096 := by
 have h1 : A[i]? = some A[i] := List.getElem?_eq_getElem hi
 have hm := List.getElem_mem hi
 have hl := h.rect _ hm
 have h2 : (A[i])[j]? = some (A[i])[j] := List.getElem?_eq_getElem (by omega)
 refine ⟨_, h1, ?_⟩
 rw [ent_get h1 h2]
 exact ⟨h2, h.big _ hm _ (List.getElem_mem _)⟩
theorem Good.ofE {E : Nat -> Nat -> Int} {n k : Nat} (hn : n <= 16) (hk : k <= 16) (h0 : 0 < n -> 0 < k) (hE : ∀ i j, i < n -> j < k -> (E i j).natAbs < 2 ^ 4096) : Good (matOfE E n k) := by
 by_cases hz : n = 0
 ·subst hz; exact Good.nil
 ·have hp : 0 < n := by omega
  have hc := colsOf_matOfE (E := E) (k := k) hp
  refine ⟨fun r hr => ?_, fun _ => by rw [hc]; have := h0 hp; omega, by rw [matOfE_len]; exact hn, fun r hr z hz' => ?_⟩
  ·obtain ⟨i, _, rfl⟩ := List.mem_map.1 hr
   rw [hc, rowOfE_len]
  ·obtain ⟨i, hi, rfl⟩ := List.mem_map.1 hr
   obtain ⟨j, hj, rfl⟩ := List.mem_map.1 hz'
   exact hE i j (List.mem_range.1 hi) (List.mem_range.1 hj)
end Go.Sh.Of
namespace Go.Sh.Of
open Go
theorem fitZ_yes {z : Int} (h : z.natAbs < 2 ^ 4096) : fitZ z = z := by unfold fitZ; rw [if_pos h]
theorem z_boxM (w : SV) (H : Heap) : ∃ p H', (∀ k, slow.box (.agg [w]) H k = k p H') /\ Frame H H' /\ Holds H' p w /\ p.good = true :=
 ⟨.ptr (H.size, 0), H.push (newRow 1 [w]), fun k => rfl, Fr.push (Nat.le_refl _) _, ⟨H.size, _, rfl, Heap.get_push_self _ _, by simp [newRow], rfl⟩, rfl⟩
theorem Holds.loadA {H : Heap} {p x : SV} (h : Holds H p x) (k : K1) : slow.load 1 true p H k = k (.agg [x]) := by
 obtain ⟨r, row, rfl, h2, h3, h4⟩ := h
 show (opR (.load 1 true) [.ptr (r, 0)] H).bind k = _
 simp only [opR, Heap.read, h2, beq_ne h3, cond_false, cut_one h4, shaped, Option.bind_some]
theorem Holds.fld {H : Heap} {p x : SV} (h : Holds H p x) (k : K1) : slow.fld 0 p k = k p := by
 obtain ⟨r, row, rfl, h2, h3, h4⟩ := h
 rfl
theorem z_mkfn {f : Nat} {xs : List SV} (hx : xs.all SV.good = true) (k : K1) : slow.mkfn f 0 xs k = k (.fn f [] xs) := by
 show (opP (.mkfn f 0) xs).bind k = _
 simp [opP, hx]
theorem Box.alloc (H : Heap) (st st' : Int) : ∃ H' H'', (∀ k, slow.alloc [.int .i64 st] H k = k (.ptr (H.size, 0)) H') /\ (∀ k, slow.store 1 (.ptr (H.size, 0)) (.int .i64 st') H' k = k H'') /\ Frame H H'' /\ Box H.size H'' st' /\ H''.size = H.size + 1 := by
 have b : Box H.size (H.push (newRow 1 [.int .i64 st])) st := ⟨0, Heap.get_push_self _ _⟩
 obtain ⟨H2, h1, h2, h3, h4⟩ := b.store st'
 have hs : (H.push (newRow 1 [.int .i64 st])).size = H.size + 1 := by simp [Heap.size_push]
 exact ⟨_, H2, fun k => rfl, h1, ⟨by omega, fun r hr => by rw [h4 r (by omega), Heap.get_push_ne _ _ (by omega)]⟩, h2, by omega⟩
theorem msize_ok (K : Nat) (d : Nat) (H : Heap) {v : SV} {A : List (List Int)} (hv : IsMat H v A) : runQ wk tab slow K (d + 1) 57 [v] H = some (.tuple [i64 A.length, i64 (colsOf A)], H) := by
 obtain ⟨w, rfl, hr⟩ := hv
 show f57 slow K (runQ wk tab slow K d) (.agg [w]) H = _
 simp only [f57, z_bbox, z_lfld, z_lld0, hr.len, z_eql, z_cond]
 by_cases h0 : A = []
 ·subst h0
  rfl
 ·have hz : ((A.length : Int) == 0) = false := beq_eq_false_iff_ne.2 (by have := List.length_pos_iff.2 h0; omega)
  obtain ⟨r0, hr0⟩ : ∃ r, A[0]? = some r := ⟨_, List.getElem?_eq_getElem (List.length_pos_iff.2 h0)⟩
  obtain ⟨u, hu, hz0⟩ := hr.load (i := 0) hr0
  have hu' : ∀ k, slow.idx 1 w (.int .i64 0) (fun p => slow.load 1 false p H k) = k u := fun k => hu .i64 k
  have e : colsOf A = r0.length := by simp [colsOf, hr0]
  simp only [hz, cond_false, hu', hz0.len, z_rest_int, e]
theorem IsRows.entry {H : Heap} {w : SV} {A : List (List Int)} (h : IsRows H w A) (hg : Good A) {i j : Nat} (hi : i < A.length) (hj : j < colsOf A) : ∃ u x y, (∀ k, slow.idx 1 w (i64 i) (fun p => slow.load 1 false p H k) = k u) /\ (∀ k, slow.idx 2 u (i64 j) (fun p => slow.load 2 true p H k) = k (.agg [x, y])) /\ IsInt H (.agg [x, y]) (ent A i j) := by
 obtain ⟨r, h1, h2, _⟩ := hg.at hi hj
 obtain ⟨u, hu, hz⟩ := h.load h1
 obtain ⟨x, y, hxy, hint⟩ := hz.load h2
 exact ⟨u, x, y, fun k => hu .i64 k, fun k => hxy .i64 k, hint⟩
end Go.Sh.Of
namespace Go.Sh.Of
open Go Go.Sh
theorem nu64_ok (K : Nat) (d : Nat) (H : Heap) {v : SV} {n : Nat} (hv : IsNat H v n) (hb : (digs n).length < 1000000) :
  runQ wk tab slow K (d + 1) 43 [v] H = some (if n < 18446744073709551616 then .tuple [u64 n, .bool true] else .tuple [u64 0, .bool false], H) := by
 obtain ⟨sl, rfl, ha, _⟩ := hv
 have hval := val_digs n
 have hsm := digs_small n
 have hB : B = 4294967296 := rfl
 show f43 slow K (runQ wk tab slow K d) (.agg [sl]) H = _
 simp only [f43, z_bbox, z_lfld, z_lld0, blen ha, z_eql, z_cond]
 match hd : digs n with
 | [] =>
  rw [hd] at hval
  have h0 : n = 0 := hval.symm
  subst h0
  rfl
 | [a] =>
  rw [hd] at hval ha hsm
  have ha1 := hsm a (by simp)
  have hn : n = a := by rw [<- hval]; simp [val]
  have hld : ∀ k, slow.idx 1 sl (.int .i64 0) (fun p => slow.load 1 false p H k) = k (u32 a) := fun k => ha.load (i := 0) rfl .i64 k
  subst hn
  rw [if_pos (by omega)]
  have e0 : ((([n] : List Nat).length : Nat) : Int) = 1 := rfl
  simp only [e0]
  have e1 : ((1 : Int) == 0) = false := rfl
  simp only [e1, cond_false, beq_self_eq_true, cond_true, hld]
  rw [n_conv64 _ .u32 n (by omega), z_rest_int]
 | [a, b] =>
  rw [hd] at hval ha hsm
  have ha1 := hsm a (by simp)
  have hb1 := hsm b (by simp)
  have hn : n = b * 4294967296 + a := by
   have e : val [a, b] = a + 4294967296 * (b + 4294967296 * 0) := rfl
   rw [<- hval, e]; omega
  have hld0 : ∀ k, slow.idx 1 sl (.int .i64 0) (fun p => slow.load 1 false p H k) = k (u32 a) := fun k => ha.load (i := 0) rfl .i64 k
  have hld1 : ∀ k, slow.idx 1 sl (.int .i64 1) (fun p => slow.load 1 false p H k) = k (u32 b) := fun k => ha.load (i := 1) rfl .i64 k
  have hlt : n < 18446744073709551616 := by omega
  rw [if_pos hlt]
  have e0 : ((([a, b] : List Nat).length : Nat) : Int) = 2 := rfl
  simp only [e0]
  have e1 : ((2 : Int) == 0) = false := rfl
  have e2 : ((2 : Int) == 1) = false := rfl
  simp only [e1, e2, cond_false, beq_self_eq_true, cond_true, hld0, hld1]
  rw [n_conv64 _ .u32 b (by omega), show (SV.int .u64 32) = SV.int .u64 ((32 : Nat) : Int) from rfl, n_shl64 _ .u64 b 32 (by decide) (by omega), n_conv64 _ .u32 a (by omega), n_or64 _ (by omega) (by omega)]
  rw [show b * 2 ^ 32 ||| a = b * 4294967296 + a from or_add b a (by omega), <- hn, z_rest_int]
 | a :: b :: c :: rest =>
  have hge : ¬ n < 18446744073709551616 := fun h => by
   have := digs_len_le (n := n) (k := 2) h
   rw [hd] at this
   simp at this
  rw [if_neg hge]
  have e1 : ((((a :: b :: c :: rest : List Nat).length : Nat) : Int) == 0) = false := beq_eq_false_iff_ne.2 (by simp only [List.length_cons]; omega)
  have e2 : ((((a :: b :: c :: rest : List Nat).length : Nat) : Int) == 1) = false := beq_eq_false_iff_ne.2 (by simp only [List.length_cons]; omega)
  have e3 : ((((a :: b :: c :: rest : List Nat).length : Nat) : Int) == 2) = false := beq_eq_false_iff_ne.2 (by simp only [List.length_cons]; omega)
  simp only [e1, e2, e3, cond_false]
  rfl
def fits64 (z : Int) : Bool := decide (-9223372036854775808 <= z /\ z < 9223372036854775808)
theorem fits64_iff {z : Int} : fits64 z = true ↔ I64 z := by simp [fits64, I64]
theorem wrap_neg {n : Nat} (h0 : 0 < n) (h : n <= 9223372036854775808) : IntKind.wrap .i64 ((18446744073709551616 - n : Nat) : Int) = -(n : Int) := by
 have h1 : (((18446744073709551616 - n : Nat) : Int)) % ((2 : Int) ^ 64) = ((18446744073709551616 - n : Nat) : Int) := Int.emod_eq_of_lt (by omega) (by omega)
 show (if (true && decide ((((18446744073709551616 - n : Nat) : Int)) % ((2 : Int) ^ 64) >= 2 ^ (64 - 1))) = true then (((18446744073709551616 - n : Nat) : Int)) % ((2 : Int) ^ 64) - 2 ^ 64 else (((18446744073709551616 - n : Nat) : Int)) % ((2 : Int) ^ 64)) = _
 split
 ·omega
 ·rename_i hc
  exfalso
  apply hc
  show decide _ = true
  apply decide_eq_true
  show (((18446744073709551616 - n : Nat) : Int)) % ((2 : Int) ^ 64) >= 2 ^ (64 - 1)
  omega
theorem u_neg64 {n : Nat} (h0 : 0 < n) (h : n <= 9223372036854775808) (k : K1) : slow.u_neg (u64 n) (fun x => slow.conv .i64 x k) = k (.int .i64 (-(n : Int))) := by
 have e2 : IntKind.wrap .u64 (0 - (n : Int)) = ((18446744073709551616 - n : Nat) : Int) := by
  simp only [IntKind.wrap, IntKind.signed, IntKind.bits, Bool.false_and, Bool.false_eq_true, if_false]
  omega
 have e3 := wrap_neg h0 h
 show (opP (.un .neg) [u64 n]).bind (fun x => slow.conv .i64 x k) = _
 simp only [opP, unOp, wrapB, Option.bind_some]
 rw [e2, z_conv, e3]
theorem zi64_ok (K : Nat) (d : Nat) (H : Heap) {v : SV} {z : Int} (hv : IsInt H v z) (hz : z.natAbs < 2 ^ 4096) :
  runQ wk tab slow K (d + 2) 21 [v] H = some (if fits64 z then .tuple [.int .i64 z, .bool true] else .tuple [.int .i64 0, .bool false], H) := by
 obtain ⟨sl, rfl, ha, hf⟩ := hv
 have h2 := digs_len hz
 have hu := nu64_ok K d H (v := .agg [sl]) (n := z.natAbs) ⟨sl, rfl, ha, hf⟩ (by omega)
 have no : fits64 z = false -> f21_j1 slow K (runQ wk tab slow K (d + 1)) (.box [.bool (decide (z < 0)), sl]) (u64 z.natAbs) (.bool true) H = some (if fits64 z then .tuple [.int .i64 z, .bool true] else .tuple [.int .i64 0, .bool false], H) := fun h => by
  rw [h]; rfl
 have yes : fits64 z = true -> f21_j1 slow K (runQ wk tab slow K (d + 1)) (.box [.bool (decide (z < 0)), sl]) (u64 z.natAbs) (.bool false) H = some (if fits64 z then .tuple [.int .i64 z, .bool true] else .tuple [.int .i64 0, .bool false], H) := fun h => by
  have hi := fits64_iff.1 h
  unfold I64 at hi
  rw [h]
  simp only [f21_j1, z_cond, cond_false, z_lfld, z_lld0]
  by_cases hn : z < 0
  ·rw [decide_eq_true hn, cond_true, u_neg64 (by omega) (by omega), z_rest_int, show -((z.natAbs : Nat) : Int) = z by omega]
   rfl
  ·rw [decide_eq_false hn, cond_false, n_convi _ .u64 _ (by omega), z_rest_int, show ((z.natAbs : Nat) : Int) = z by omega]
   rfl
 show f21 slow K (runQ wk tab slow K (d + 1)) _ H = _
 simp only [f21, z_bbox, z_lfld, z_lldn, hu, z_call]
 by_cases h1 : z.natAbs < 18446744073709551616
 ·rw [if_pos h1]
  simp only [z_ext0, z_ext1, z_not, Bool.not_true, z_guard, cond_false]
  rw [show (SV.int .u64 9223372036854775808) = u64 9223372036854775808 from rfl]
  simp only [n_gtr, n_eql, z_guard]
  by_cases h2 : z.natAbs > 9223372036854775808
  ·rw [decide_eq_true h2, cond_true]
   exact no (decide_eq_false (by omega))
  ·rw [decide_eq_false h2, cond_false]
   by_cases h3 : z.natAbs = 9223372036854775808
   ·rw [decide_eq_true h3, cond_true]
    simp only [z_lfld, z_lld0, z_not]
    by_cases hn : z < 0
    ·rw [decide_eq_true hn, Bool.not_true] at *
     exact yes (decide_eq_true (by omega))
    ·rw [decide_eq_false hn, Bool.not_false] at *
     exact no (decide_eq_false (by omega))
   ·rw [decide_eq_false h3, cond_false]
    exact yes (decide_eq_true (by omega))
 ·rw [if_neg h1]
  simp only [z_ext0, z_ext1, z_not, Bool.not_false, z_guard, cond_true]
  have e : fits64 z = false := decide_eq_false (by omega)
  rw [e]
  rfl
end Go.Sh.Of
