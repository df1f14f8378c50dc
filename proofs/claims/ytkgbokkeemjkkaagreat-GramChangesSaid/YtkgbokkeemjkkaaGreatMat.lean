/- Contracts of the package mat: rows and matrices; shaped, made. Contracts of the package mat: Text; words for rows of numbers and of texts. Contracts of the package mat: lengths of rows. Contracts of the package mat: lengths of rows. Contracts of the package mat: Of, Make, Identity. Contracts of the package mat: made, where the function that tells entries keeps the first error in a box. Matrices of whole numbers: plain laws of products, sums, transposes. Contracts of the package mat: Parse, whole, Size, Add, Mul, Transpose, Same. Contracts: Uint64, Int64 of numbers and of matrices. -/
import Derived.Test.YtkgbokkeemjkkaaGreatNum
import Derived.Test.YtkgbokkeemjkkaaGreatSh31
set_option linter.unusedVariables false
set_option linter.unusedSimpArgs false
namespace Go.Sh.Of
open Go
variable {H H' H0 Hi : Heap}
variable {v w l row t x p : SV}
variable {zs : List Int}
variable {i lo r n cols j lo' g q m k : Nat}
variable {z st : Int}
variable {rows A B : List (List Int)}
variable {e cs caps ws : List SV}
variable {els : List (List SV)}
variable {ns : List Nat}
variable {E err : Nat -> Nat -> Int}
variable {s : List UInt8}
variable {f : Nat -> Int}
variable {T : List (List (List UInt8))}
def IsZs (H : Heap) (v : SV) (zs : List Int) : Prop := ∃ els, ArrS 2 H v els /\ els.length = zs.length /\ ∀ (i : Nat) e z, els[i]? = some e -> zs[i]? = some z -> IsInt H (.agg e) z
theorem IsZs.fr (h : IsZs H v zs) (hf : Frame H H') : IsZs H' v zs := by
 obtain ⟨els, h1, h2, h3⟩ := h
 exact ⟨els, h1.fr hf, h2, fun i e z he hz => (h3 i e z he hz).fr hf⟩
theorem IsZs.len (h : IsZs H v zs) (k : K1) : slow.len v k = k (i64 zs.length) := by
 obtain ⟨els, h1, h2, h3⟩ := h
 rw [h1.len, h2]
theorem IsZs.flat (h : IsZs H v zs) : v.flat = true := by
 obtain ⟨els, h1, h2, h3⟩ := h
 exact h1.flat
theorem IsZs.load (h : IsZs H v zs) (hz : zs[i]? = some z) : ∃ x y, (∀ kd k, slow.idx 2 v (.int kd i) (fun p => slow.load 2 true p H k) = k (.agg [x, y])) /\ IsInt H (.agg [x, y]) z := by
 obtain ⟨els, h1, h2, h3⟩ := h
 have hi := (List.getElem?_eq_some_iff.1 hz).1
 obtain ⟨e, he⟩ : ∃ e, els[i]? = some e := ⟨_, List.getElem?_eq_getElem (by omega)⟩
 have h4 := h3 i e z he hz
 obtain ⟨sl, e1, h5, h6⟩ := h4
 cases e1
 exact ⟨_, _, fun kd k => h1.load (by decide) he kd k, sl, rfl, h5, h6⟩
def IsRows (H : Heap) (v : SV) (rows : List (List Int)) : Prop := ∃ ws, Arr H v ws /\ ws.length = rows.length /\ ∀ (i : Nat) w zs, ws[i]? = some w -> rows[i]? = some zs -> IsZs H w zs
theorem IsRows.fr (h : IsRows H v rows) (hf : Frame H H') : IsRows H' v rows := by
 obtain ⟨ws, h1, h2, h3⟩ := h
 exact ⟨ws, h1.fr hf, h2, fun i w zs hw hz => (h3 i w zs hw hz).fr hf⟩
theorem IsRows.len (h : IsRows H v rows) (k : K1) : slow.len v k = k (i64 rows.length) := by
 obtain ⟨ws, h1, h2, h3⟩ := h
 rw [h1.len, h2]
theorem IsRows.flat (h : IsRows H v rows) : v.flat = true := by
 obtain ⟨ws, h1, h2, h3⟩ := h
 exact h1.flat
theorem IsRows.load (h : IsRows H v rows) (hz : rows[i]? = some zs) : ∃ w, (∀ kd k, slow.idx 1 v (.int kd i) (fun p => slow.load 1 false p H k) = k w) /\ IsZs H w zs := by
 obtain ⟨ws, h1, h2, h3⟩ := h
 have hi := (List.getElem?_eq_some_iff.1 hz).1
 obtain ⟨w, hw⟩ : ∃ w, ws[i]? = some w := ⟨_, List.getElem?_eq_getElem (by omega)⟩
 exact ⟨w, fun kd k => h1.load hw kd k, h3 i w zs hw hz⟩
def IsMat (H : Heap) (v : SV) (rows : List (List Int)) : Prop := ∃ w, v = .agg [w] /\ IsRows H w rows
theorem IsMat.fr (h : IsMat H v rows) (hf : Frame H H') : IsMat H' v rows := by
 obtain ⟨w, h1, h2⟩ := h
 exact ⟨w, h1, h2.fr hf⟩
theorem IsInt.keep (h : IsInt H v z) {X : Nat -> Prop} (hX : ∀ r row, X r -> H.get r = some row -> ∀ c ∈ row.cells, ∀ kd n, c ≠ .int kd n) (hro : ∀ r, ¬ X r -> r < H.size -> H'.get r = H.get r) : IsInt H' v z := by
 obtain ⟨sl, rfl, ha, hf⟩ := h
 refine ⟨sl, rfl, ?_, hf⟩
 obtain ⟨s, rfl, h2, h3⟩ := ha
 refine ⟨s, rfl, h2, ?_⟩
 rcases h3 with h3 | ⟨r, o, row, b1, b2, b3, b4⟩
 ·exact .inl h3
 ·cases hd : digs z.natAbs with
  | nil => left; rfl
  | cons d ds =>
   right
   rw [hd] at b4
   have h0 := b4 0 (u32 d) rfl
   have hne : ¬ X r := fun e => hX r row e b2 _ (List.mem_of_getElem? h0) _ _ rfl
   exact ⟨r, o, row, b1, by rw [hro r hne (Heap.get_lt b2)]; exact b2, b3, b4⟩
def zCell (e : List SV) : Prop := ∃ b s, e = [.bool b, .slice s]
theorem IsInt.cell (h : IsInt H (.agg e) z) : zCell e := by
 obtain ⟨sl, e1, ⟨s, rfl, _⟩, _⟩ := h
 cases e1
 exact ⟨_, _, rfl⟩
theorem zCells_flat (h : ∀ e ∈ els, zCell e) : ∀ c ∈ els.flatten, ∀ kd n, c ≠ .int kd n := fun c hc kd n => by
 obtain ⟨e, he, hce⟩ := List.mem_flatten.1 hc
 obtain ⟨b, s, rfl⟩ := h e he
 simp at hce
 rcases hce with rfl | rfl <;> simp
def slen : SV -> Nat
 | .slice s => s.len
 | _ => 0
def isSlice : SV -> Prop
 | .slice _ => True
 | _ => False
theorem len_slen (h : isSlice w) (k : K1) : slow.len w k = k (i64 (slen w)) := by
 cases w <;> simp only [isSlice] at h
 rfl
theorem IsZs.slen (h : IsZs H v zs) : isSlice v /\ slen v = zs.length := by
 obtain ⟨els, ⟨s, rfl, h1, _⟩, h2, h3⟩ := h
 exact ⟨trivial, by rw [<- h2, <- h1]; rfl⟩
theorem Arr.slen (h : Arr H v cs) : isSlice v /\ slen v = cs.length := by
 obtain ⟨s, rfl, h1, _⟩ := h
 exact ⟨trivial, h1⟩
theorem isSlice_not_int {c : SV} (h : isSlice c) (kd : IntKind) (n : Int) : c ≠ .int kd n := fun e => by subst e; exact h
theorem IsZs.keep (h : IsZs H v zs) {X : Nat -> Prop} (hX : ∀ r row, X r -> H.get r = some row -> ∀ c ∈ row.cells, isSlice c) (hro : ∀ r, ¬ X r -> r < H.size -> H'.get r = H.get r) : IsZs H' v zs := by
 obtain ⟨els, h1, h2, h3⟩ := h
 refine ⟨els, ?_, h2, fun i e z he hz => (h3 i e z he hz).keep (fun r row hx hg c hc kd n => isSlice_not_int (hX r row hx hg c hc) kd n) hro⟩
 obtain ⟨s, rfl, g1, g0, g3⟩ := h1
 refine ⟨s, rfl, g1, g0, ?_⟩
 rcases g3 with g3 | ⟨r, o, row, b1, b2, b3, b4⟩
 ·exact .inl g3
 ·cases els with
  | nil => left; rfl
  | cons e els =>
   right
   obtain ⟨z, hz⟩ : ∃ z, zs[0]? = some z := ⟨_, List.getElem?_eq_getElem (by simp at h2; omega)⟩
   obtain ⟨b, s', rfl⟩ := (h3 0 e z rfl hz).cell
   have h0 := b4 0 _ rfl 0 _ rfl
   have hne : ¬ X r := fun hx => hX r row hx b2 _ (List.mem_of_getElem? h0)
   exact ⟨r, o, row, b1, by rw [hro r hne (Heap.get_lt b2)]; exact b2, b3, b4⟩
theorem Own.cells (h : Own lo H v cs) {row : Row} (hr : inRow v r) (hg : H.get r = some row) : row.cells = cs := by
 obtain ⟨base, rfl, h⟩ := h
 obtain ⟨s, o, e, h4⟩ := hr
 cases e
 rcases h with ⟨rfl, _⟩ | ⟨r', ver, rfl, h2, h3⟩
 ·cases h4
 ·cases h4; rw [h3] at hg; cases hg; rfl
theorem OwnS.cells (h : OwnS n lo H v els) {row : Row} (hr : inRow v r) (hg : H.get r = some row) : row.cells = els.flatten := by
 obtain ⟨hn, base, rfl, h⟩ := h
 obtain ⟨s, o, e, h4⟩ := hr
 cases e
 rcases h with ⟨rfl, _⟩ | ⟨r', ver, rfl, h2, h3⟩
 ·cases h4
 ·cases h4; rw [h3] at hg; cases hg; rfl
def shapedB (ns : List Nat) : Bool := ns.all fun n => decide (ns.length <= 16) && (decide (1 <= n) && (decide (n <= 16) && decide (some n = ns[0]?)))
theorem nats_get (h : ns[i]? = some n) : (ns.map i64)[i]? = some (i64 n) := by simp [h]
theorem shaped_loop (C : CallC) (K : Nat) (hv : Arr H v (ns.map i64)) (hb : ns.length < 100000) : ∀ (rest : List Nat) (i fuel : Nat), ns.drop i = rest -> rest.length < fuel ->
  slow.loop4 (f20_l1 slow K C) fuel v v (i64 ns.length) (i64 i) H = some (.bool (rest.all fun n => decide (ns.length <= 16) && (decide (1 <= n) && (decide (n <= 16) && decide (some n = ns[0]?)))), H)
 | [], i, fuel, hd, hf => by
  obtain ⟨fuel, rfl⟩ := suc hf
  have hi : ¬ i < ns.length := by have := List.drop_eq_nil_iff.1 hd; omega
  rw [z_loop4]
  simp only [f20_l1, n_lss, decide_eq_false hi, z_cond, cond_false, List.all_nil]
 | n :: rest, i, fuel, hd, hf => by
  obtain ⟨fuel, rfl⟩ := suc hf
  have hn : ns[i]? = some n := by
   have := congrArg List.head? hd
   rwa [List.head?_drop, List.head?_cons] at this
  have hi : i < ns.length := (List.getElem?_eq_some_iff.1 hn).1
  have hd' : ns.drop (i + 1) = rest := by rw [<- List.drop_drop, hd]; rfl
  obtain ⟨m, hm⟩ : ∃ m, ns[0]? = some m := ⟨_, List.getElem?_eq_getElem (by omega)⟩
  have h0 : ∀ k, slow.idx 1 v (.int .i64 0) (fun p => slow.load 1 false p H k) = k (i64 m) := fun k => hv.load (i := 0) (nats_get hm) .i64 k
  have hlen : ∀ k, slow.len v k = k (i64 ns.length) := fun k => by rw [hv.len]; simp
  rw [z_loop4]
  simp only [f20_l1, n_lss, decide_eq_true hi, z_cond, cond_true, hv.load (nats_get hn), hlen]
  rw [show (SV.int .i64 16) = i64 16 from rfl, n_gtr, z_guard]
  rw [List.all_cons]
  by_cases h1 : ns.length > 16
  ·rw [decide_eq_true h1, cond_true, decide_eq_false (show ¬ ns.length <= 16 by omega)]
   simp only [f20_j3, z_cond, cond_true, Bool.false_and]
  ·rw [decide_eq_false h1, cond_false, decide_eq_true (show ns.length <= 16 by omega), show (SV.int .i64 1) = i64 1 from rfl, n_lss, z_guard]
   by_cases h2 : n < 1
   ·rw [decide_eq_true h2, cond_true, decide_eq_false (show ¬ 1 <= n by omega)]
    simp only [f20_j3, z_cond, cond_true, Bool.false_and, Bool.and_false]
   ·rw [decide_eq_false h2, cond_false, decide_eq_true (show 1 <= n by omega), n_gtr, z_guard]
    by_cases h3 : n > 16
    ·rw [decide_eq_true h3, cond_true, decide_eq_false (show ¬ n <= 16 by omega)]
     simp only [f20_j3, z_cond, cond_true, Bool.false_and, Bool.and_false]
    ·rw [decide_eq_false h3, cond_false, decide_eq_true (show n <= 16 by omega), h0, n_neq]
     by_cases h4 : n ≠ m
     ·have h5 : ¬ (some n = ns[0]?) := by rw [hm]; intro e; exact h4 (Option.some.inj e)
      rw [decide_eq_true h4, decide_eq_false h5]
      simp only [f20_j3, z_cond, cond_true, Bool.false_and, Bool.and_false]
     ·have h5 : some n = ns[0]? := by rw [hm, Decidable.not_not.1 h4]
      rw [decide_eq_false h4, decide_eq_true h5]
      simp only [f20_j3, z_cond, cond_false, Bool.true_and]
      rw [show (SV.int .i64 1) = i64 1 from rfl, n_addi _ (by omega)]
      have ih := shaped_loop C K hv hb rest (i + 1) fuel hd' (by simp at hf; omega)
      rw [decide_eq_true (show ns.length <= 16 by omega)] at ih
      simp only [Bool.true_and] at ih
      exact ih
theorem shaped_ok (K : Nat) (d : Nat) (H : Heap) (hv : Arr H v (ns.map i64)) (hb : ns.length < 100000) (hK : 100000 < K) : runQ wk tab slow K (d + 1) 20 [v] H = some (.bool (shapedB ns), H) := by
 show f20 slow K (runQ wk tab slow K d) v H = _
 simp only [f20, hv.len]
 rw [show (ns.map i64).length = ns.length by simp]
 exact shaped_loop _ K hv hb ns 0 K rfl (by omega)
def rowOfE (E : Nat -> Nat -> Int) (cols i : Nat) : List Int := (List.range cols).map (E i)
def matOfE (E : Nat -> Nat -> Int) (rows cols : Nat) : List (List Int) := (List.range rows).map (rowOfE E cols)
theorem rowOfE_get (h : j < cols) : (rowOfE E cols i)[j]? = some (E i j) := by simp [rowOfE, h]
theorem rowOfE_len (E : Nat -> Nat -> Int) (cols i : Nat) : (rowOfE E cols i).length = cols := by simp [rowOfE]
def EntryOk (C : CallC) (g : Nat) (caps : List SV) (H0 : Heap) (rows cols : Nat) (E : Nat -> Nat -> Int) : Prop :=
 ∀ i j H, i < rows -> j < cols -> Frame H0 H -> ∃ r H', C g ([] ++ ([i64 i, i64 j] ++ caps)) H = some (r, H') /\ Frame H H' /\ IsInt H' r (E i j)
theorem Own.geA (h : Own lo H v cs) (hr : inRow v r) : lo <= r := by
 obtain ⟨base, rfl, h⟩ := h
 obtain ⟨s, o, e, h4⟩ := hr
 cases e
 rcases h with ⟨rfl, _⟩ | ⟨r', ver, rfl, h2, h3⟩
 ·cases h4
 ·cases h4; exact h2
theorem OwnS.geA (h : OwnS n lo H v els) (hr : inRow v r) : lo <= r := by
 obtain ⟨_, base, rfl, h⟩ := h
 obtain ⟨s, o, e, h4⟩ := hr
 cases e
 rcases h with ⟨rfl, _⟩ | ⟨r', ver, rfl, h2, h3⟩
 ·cases h4
 ·cases h4; exact h2
def IsMatF (lo : Nat) (H : Heap) (v : SV) (rows : List (List Int)) : Prop := ∃ w, v = .agg [w] /\ (∀ r, inRow w r -> lo <= r) /\ ∃ ws, Arr H w ws /\ ws.length = rows.length /\ ∀ (i : Nat) w zs, ws[i]? = some w -> rows[i]? = some zs -> IsZs H w zs /\ ∀ r, inRow w r -> lo <= r
theorem IsMatF.mat (h : IsMatF lo H v rows) : IsMat H v rows := by
 obtain ⟨w, e, _, ws, h1, h2, h3⟩ := h
 exact ⟨w, e, ws, h1, h2, fun i w zs hw hz => (h3 i w zs hw hz).1⟩
theorem IsMatF.mono (h : IsMatF lo H v rows) (hl : lo' <= lo) : IsMatF lo' H v rows := by
 obtain ⟨w, e, h0, ws, h1, h2, h3⟩ := h
 exact ⟨w, e, fun r hr => Nat.le_trans hl (h0 r hr), ws, h1, h2, fun i w zs hw hz => ⟨(h3 i w zs hw hz).1, fun r hr => Nat.le_trans hl ((h3 i w zs hw hz).2 r hr)⟩⟩
theorem IsMatF.nil (lo : Nat) (H : Heap) : IsMatF lo H (.agg [.slice nilSl]) [] := ⟨_, rfl, (fun r hr => by obtain ⟨s, o, e, h⟩ := hr; cases e; cases h), [], Arr.nil H, rfl, fun i w zs hw => by simp at hw⟩
theorem made_in (C : CallC) (K : Nat) {rows : Nat} (hcols : cols < 100000) (hrows : rows < 100000) (hE : EntryOk C g caps H0 rows cols E) (h0i : Frame H0 Hi) {lo : Nat} (hl : Own lo Hi l ws) (hlo : lo <= Hi.size) (hwl : ws.length < 100000) (hws : ∀ w ∈ ws, isSlice w) {i : Nat} (hi : i < rows) (bx : SV) (k8 : SV -> SV -> SV -> SV -> SV -> SV -> Heap -> Rs) : ∀ (m j fuel : Nat) (H : Heap) (els : List (List SV)), j + m = cols -> m < fuel -> Frame Hi H -> OwnS 2 Hi.size H row els -> els.length = cols -> (∀ e ∈ els, zCell e) -> (∀ q e, q < j -> els[q]? = some e -> IsInt H (.agg e) (E i q)) ->
  ∃ l' H', slow.loop10 (f22_l3 slow K C k8) fuel (i64 cols) (.fn g [] caps) bx l (i64 i) row (i64 rows) (i64 i) (i64 cols) (i64 j) H = k8 (i64 cols) (.fn g [] caps) bx l' (i64 rows) (i64 (i + 1)) H' /\ Fr lo Hi H' /\ (∀ r, ¬ inRow l r -> r < Hi.size -> H'.get r = Hi.get r) /\ ∃ w, Own lo H' l' (ws ++ [w]) /\ IsZs H' w (rowOfE E cols i) /\ isSlice w /\ w = row
 | 0, j, fuel, H, els, hjm, hf, hfr, ho, hel, hcell, hdone => by
  obtain ⟨fuel, rfl⟩ := suc hf
  have hj : j = cols := by omega
  subst hj
  have hz : IsZs H row (rowOfE E j i) := ⟨els, ho.arr, by rw [rowOfE_len, hel], fun q e z he hz => by
   have hq : q < j := by have := (List.getElem?_eq_some_iff.1 he).1; omega
   rw [rowOfE_get hq] at hz
   cases hz
   exact hdone q e hq he⟩
  obtain ⟨u, H1, hu, hou, hfu, hru, hsz⟩ := z_lay1 (H := H) (lo := H.size) (Nat.le_refl _) (.slice nilSl) (x := row) hz.flat
  have hl1 := (hl.fr hfr).fr hfu
  obtain ⟨l', H2, ha, ho2, hf2, hrw, hin, _⟩ := hl1.append (Nat.le_trans hlo (Nat.le_trans hfr.size hfu.size)) hou.arr (by_ := 24) (roomy_small (by simp; omega))
  refine ⟨l', H2, ?_, ?_, ?_, row, ho2, ?_, hz.slen.1, rfl⟩
  ·rw [z_loop10]
   have hlt : ¬ j < j := Nat.lt_irrefl j
   simp only [f22_l3, n_lss, decide_eq_false hlt, z_cond, cond_false, hu, ha]
   rw [show (SV.int .i64 1) = i64 1 from rfl, n_addi _ (by omega)]
  ·exact ((hfr.mono hlo).trans (hfu.mono (Nat.le_trans hlo hfr.size))).trans hf2
  ·intro r hr hlt
   have hrH : r < H.size := Nat.lt_of_lt_of_le hlt hfr.size
   rw [hrw r hr (Nat.lt_of_lt_of_le hrH hfu.size), hfu.rows r hrH, hfr.rows r hlt]
  ·refine (hz.fr hfu).keep (X := fun r => inRow l r) (fun r rw hr hg c hc => ?_) hrw
   have := Own.cells hl1 hr hg
   rw [this] at hc
   exact hws c hc
 | m + 1, j, fuel, H, els, hjm, hf, hfr, ho, hel, hcell, hdone => by
  obtain ⟨fuel, rfl⟩ := suc hf
  have hlt : j < cols := by omega
  obtain ⟨r, H1, h1, f1, hr⟩ := hE i j H hi hlt (Frame.trans h0i hfr)
  obtain ⟨sl, rfl, hsl, hslf⟩ := hr
  have hint : IsInt H1 (.agg [.bool (decide (E i j < 0)), sl]) (E i j) := ⟨sl, rfl, hsl, hslf⟩
  have ho1 := ho.fr f1
  obtain ⟨H2, st, ho2, f2, sz2, hro⟩ := ho1.store (i := j) (by omega) (e := [.bool (decide (E i j < 0)), sl]) rfl .i64
  have hX : ∀ r row', inRow row r -> H1.get r = some row' -> ∀ c ∈ row'.cells, ∀ kd n, c ≠ .int kd n := fun r row' hr hg => by
   rw [OwnS.cells ho1 hr hg]
   exact zCells_flat hcell
  obtain ⟨l', H3, h3, h4, h5, h6⟩ := made_in C K hcols hrows hE h0i hl hlo hwl hws hi bx k8 m (j + 1) fuel H2 (els.set j [.bool (decide (E i j < 0)), sl]) (by omega) (by omega) (Fr.trans (Frame.trans hfr f1) f2) ho2 (by simpa using hel) (fun e he => by
   rcases List.mem_or_eq_of_mem_set he with he | rfl
   ·exact hcell e he
   ·exact hint.cell) (fun q e hq he => by
    by_cases hqj : q = j
    ·subst hqj
     rw [List.getElem?_set_self (by omega)] at he
     cases he
     exact hint.keep hX fun r hr _ => hro r hr
    ·rw [List.getElem?_set_ne (Ne.symm hqj)] at he
     exact ((hdone q e (by omega) he).fr f1).keep hX fun r hr _ => hro r hr)
  refine ⟨l', H3, ?_, h4, h5, h6⟩
  rw [z_loop10]
  simp only [f22_l3, n_lss, decide_eq_true hlt, z_cond, cond_true, z_callv, h1, z_call, st]
  rw [show (SV.int .i64 1) = i64 1 from rfl, n_addi _ (by omega)]
  exact h3
theorem made_out (C : CallC) (K : Nat) (hK : 100000 < K) {rows : Nat} (hcols : cols < 100000) (hrows : rows < 100000) (hE : EntryOk C g caps H0 rows cols E) : ∀ (m i fuel : Nat) (H : Heap) (l : SV) (ws : List SV), i + m = rows -> m < fuel -> Frame H0 H -> Own H0.size H l ws -> ws.length = i -> (∀ w ∈ ws, isSlice w) -> (∀ q w, ws[q]? = some w -> IsZs H w (rowOfE E cols q) /\ ∀ r, inRow w r -> H0.size <= r) ->
  ∃ r H', slow.loop6 (f22_l1 slow K C) fuel (i64 cols) (.fn g [] caps) (.box [.slice nilSl]) l (i64 rows) (i64 i) H = some (r, H') /\ Frame H0 H' /\ IsMatF H0.size H' r (matOfE E rows cols)
 | 0, i, fuel, H, l, ws, him, hf, hfr, ho, hwl, hws, hdone => by
  obtain ⟨fuel, rfl⟩ := suc hf
  have hi : i = rows := by omega
  subst hi
  refine ⟨.agg [l], H, ?_, hfr, l, rfl, fun r hr => Own.geA ho hr, ws, ho.arr, by simp [matOfE, hwl], fun q w zs hw hz => ?_⟩
  ·rw [z_loop6]
   have hlt : ¬ i < i := Nat.lt_irrefl i
   simp only [f22_l1, n_lss, decide_eq_false hlt, z_cond, cond_false, z_build1 _ _ ho.arr.flat, z_bst1, z_resc1]
  ·have hq : q < i := by have := (List.getElem?_eq_some_iff.1 hw).1; omega
   simp [matOfE, hq] at hz
   subst hz
   exact hdone q w hw
 | m + 1, i, fuel, H, l, ws, him, hf, hfr, ho, hwl, hws, hdone => by
  obtain ⟨fuel, rfl⟩ := suc hf
  have hlt : i < rows := by omega
  obtain ⟨row, H1, h1, ho1, f1, hin1, sz1⟩ := z_makeS (H := H) (lo := H.size) (Nat.le_refl _) 2 32 (by decide) [.bool false, .slice nilSl] rfl cols (by omega) (roomy_small (by omega)) .i64 .i64
  obtain ⟨l', H2, h2, f2, hro2, w, ho2, hz2, hs2, hwr⟩ := made_in C K hcols hrows hE hfr (Hi := H) ho hfr.size (by omega) hws hlt (.box [.slice nilSl]) (slow.loop6 (f22_l1 slow K C) fuel) (row := row) cols 0 K H1 (List.replicate cols [.bool false, .slice nilSl]) (by omega) (by omega) f1 ho1 (by simp) (fun e he => by rw [List.eq_of_mem_replicate he]; exact ⟨_, _, rfl⟩) (fun q e hq => by omega)
  obtain ⟨r, H3, h3, f3, hm⟩ := made_out C K hK hcols hrows hE m (i + 1) fuel H2 l' (ws ++ [w]) (by omega) (by omega) (Fr.trans hfr f2) ho2 (by simp [hwl]) (fun v hv => by
   rcases List.mem_append.1 hv with hv | hv
   ·exact hws v hv
   ·rw [List.mem_singleton.1 hv]; exact hs2) (fun q v hv => by
    by_cases hq : q < ws.length
    ·rw [List.getElem?_append_left hq] at hv
     exact ⟨(hdone q v hv).1.keep (X := fun r => inRow l r) (fun r rw hr hg c hc => by rw [Own.cells ho hr hg] at hc; exact hws c hc) hro2, (hdone q v hv).2⟩
    ·have hq2 : q = ws.length := by have := (List.getElem?_eq_some_iff.1 hv).1; simp at this; omega
     subst hq2
     simp at hv
     subst hv
     rw [hwl]; exact ⟨hz2, fun r hr => Nat.le_trans hfr.size (OwnS.geA ho1 (hwr ▸ hr))⟩)
  refine ⟨r, H3, ?_, f3, hm⟩
  rw [z_loop6]
  simp only [f22_l1, n_lss, decide_eq_true hlt, z_cond, cond_true, h1]
  rw [ho1.arr.len, List.length_replicate, show (SV.int .i64 0) = i64 0 from rfl, h2]
  exact h3
theorem made_ok (K : Nat) (hK : 100000 < K) (d : Nat) {rows : Nat} (hcols : cols < 100000) (hrows : rows < 100000) (hE : EntryOk (runQ wk tab slow K d) g caps H0 rows cols E) :
  ∃ r H', runQ wk tab slow K (d + 1) 22 [i64 rows, i64 cols, .fn g [] caps] H0 = some (r, H') /\ Frame H0 H' /\ IsMatF H0.size H' r (matOfE E rows cols) := by
 show ∃ r H', f22 slow K (runQ wk tab slow K d) (i64 rows) (i64 cols) (.fn g [] caps) H0 = _ /\ _
 exact made_out _ K hK hcols hrows hE rows 0 K H0 (.slice nilSl) [] (by omega) (by omega) (Fr.refl _ _) (Own.nil _ _) rfl (fun w hw => by cases hw) (fun q w hw => by simp at hw)
end Go.Sh.Of
namespace Go.Sh.Of
open Go
variable {H H' H0 Hi : Heap}
variable {v w l row t x p : SV}
variable {zs : List Int}
variable {i lo r n cols j lo' g q m k : Nat}
variable {z st : Int}
variable {rows A B : List (List Int)}
variable {e cs caps ws : List SV}
variable {els : List (List SV)}
variable {ns : List Nat}
variable {E err : Nat -> Nat -> Int}
variable {s : List UInt8}
variable {f : Nat -> Int}
variable {T : List (List (List UInt8))}
theorem push1 {lo : Nat} {H : Heap} (h : Own lo H t cs) (hl : lo <= H.size) (z : SV) (hx : x.flat = true) {by_ : Nat} (hr : roomy (cs.length + 1) by_ = true) :
  ∃ t' H', (∀ k, slow.hbuild 1 [z] [(0, 1)] [x] H (fun u H1 => slow.append 1 by_ t u H1 k) = k t' H') /\ Own lo H' t' (cs ++ [x]) /\ Fr lo H H' /\ (∀ r, ¬ inRow t r -> r < H.size -> H'.get r = H.get r) := by
 obtain ⟨u, H1, hu, hou, hfu, hru, hsz⟩ := z_lay1 (H := H) (lo := H.size) (Nat.le_refl _) z hx
 obtain ⟨t', H2, ha, ho2, hf2, hrw, _, _⟩ := (h.fr hfu).append (Nat.le_trans hl hfu.size) hou.arr (by_ := by_) hr
 exact ⟨t', H2, fun k => by rw [hu, ha], ho2, (hfu.mono hl).trans hf2, fun r hn hlt => by rw [hrw r hn (Nat.lt_of_lt_of_le hlt hfu.size), hfu.rows r hlt]⟩
theorem pushS {n lo : Nat} (hn : 0 < n) (hn' : n <= 1000) {H : Heap} (h : OwnS n lo H t els) (hl : lo <= H.size) (z : List SV) (hz : z.length = n) (he : e.length = n) {by_ : Nat} (hr : roomy (els.length + 1) by_ = true) :
  ∃ t' H', (∀ k, slow.hbuild n z [(0, n)] [.agg e] H (fun u H1 => slow.append n by_ t u H1 k) = k t' H') /\ OwnS n lo H' t' (els ++ [e]) /\ Fr lo H H' /\ (∀ r, ¬ inRow t r -> r < H.size -> H'.get r = H.get r) := by
 obtain ⟨u, H1, hu, hou, hfu, hru, hsz⟩ := z_layS (H := H) (lo := H.size) (Nat.le_refl _) n hn hn' z hz he
 obtain ⟨t', H2, ha, ho2, hf2, hrw, _⟩ := OwnS.append hn (h.fr hfu) (Nat.le_trans hl hfu.size) hou.arr (by_ := by_) hr
 exact ⟨t', H2, fun k => by rw [hu, ha], ho2, (hfu.mono hl).trans hf2, fun r hn hlt => by rw [hrw r hn (Nat.lt_of_lt_of_le hlt hfu.size), hfu.rows r hlt]⟩
def IsRowsC (H : Heap) (v : SV) (rows : List (List SV)) : Prop := ∃ ws, Arr H v ws /\ ws.length = rows.length /\ ∀ (i : Nat) w cs, ws[i]? = some w -> rows[i]? = some cs -> Arr H w cs
theorem IsRowsC.fr {rows : List (List SV)} (h : IsRowsC H v rows) (hf : Frame H H') : IsRowsC H' v rows := by
 obtain ⟨ws, h1, h2, h3⟩ := h
 exact ⟨ws, h1.fr hf, h2, fun i w zs hw hz => (h3 i w zs hw hz).fr hf⟩
theorem IsRowsC.len {rows : List (List SV)} (h : IsRowsC H v rows) (k : K1) : slow.len v k = k (i64 rows.length) := by
 obtain ⟨ws, h1, h2, h3⟩ := h
 rw [h1.len, h2]
theorem IsRowsC.load {rows : List (List SV)} (h : IsRowsC H v rows) (hz : rows[i]? = some cs) : ∃ w, (∀ kd k, slow.idx 1 v (.int kd i) (fun p => slow.load 1 false p H k) = k w) /\ Arr H w cs := by
 obtain ⟨ws, h1, h2, h3⟩ := h
 have hi := (List.getElem?_eq_some_iff.1 hz).1
 obtain ⟨w, hw⟩ : ∃ w, ws[i]? = some w := ⟨_, List.getElem?_eq_getElem (by omega)⟩
 exact ⟨w, fun kd k => h1.load hw kd k, h3 i w cs hw hz⟩
theorem IsRowsC.flat {rows : List (List SV)} (h : IsRowsC H v rows) : v.flat = true := by
 obtain ⟨ws, h1, h2, h3⟩ := h
 exact h1.flat
abbrev IsInts2 (H : Heap) (v : SV) (rows : List (List Int)) : Prop := IsRowsC H v (rows.map (intsL .i64))
abbrev strs (l : List (List UInt8)) : List SV := l.map .str
abbrev IsTexts (H : Heap) (v : SV) (rows : List (List (List UInt8))) : Prop := IsRowsC H v (rows.map strs)
theorem strs_get {l : List (List UInt8)} (h : l[i]? = some s) : (strs l)[i]? = some (.str s) := by simp [h]
theorem Arr.isSlice (h : Arr H v cs) : isSlice v := (Arr.slen h).1
end Go.Sh.Of
namespace Go.Sh.Of
open Go
variable {H H' H0 Hi : Heap}
variable {v w l row t x p : SV}
variable {zs : List Int}
variable {i lo r n cols j lo' g q m k : Nat}
variable {z st : Int}
variable {rows A B : List (List Int)}
variable {e cs caps ws : List SV}
variable {els : List (List SV)}
variable {ns : List Nat}
variable {E err : Nat -> Nat -> Int}
variable {s : List UInt8}
variable {f : Nat -> Int}
variable {T : List (List (List UInt8))}
theorem lengthsI_loop (C : CallC) (K : Nat) (hv : Arr H0 v ws) (hws : ∀ w ∈ ws, isSlice w) (hl : ws.length < 100000000) : ∀ (m i fuel : Nat) (H : Heap) (o : SV), i + m = ws.length -> m < fuel -> Frame H0 H -> Own H0.size H o ((ws.take i).map fun w => i64 (slen w)) ->
  ∃ r H', slow.loop4 (f44_l1 slow K C) fuel v o (i64 ws.length) (i64 i) H = some (r, H') /\ Frame H0 H' /\ Arr H' r ((ws.map slen).map i64)
 | 0, i, fuel, H, o, him, hf, hfr, ho => by
  obtain ⟨fuel, rfl⟩ := suc hf
  have hi : i = ws.length := by omega
  subst hi
  rw [List.take_length] at ho
  refine ⟨o, H, ?_, hfr, by rw [List.map_map]; exact ho.arr⟩
  rw [z_loop4]
  have hlt : ¬ ws.length < ws.length := Nat.lt_irrefl _
  simp only [f44_l1, n_lss, decide_eq_false hlt, z_cond, cond_false, z_rest ho.arr.good]
 | m + 1, i, fuel, H, o, him, hf, hfr, ho => by
  obtain ⟨fuel, rfl⟩ := suc hf
  have hlt : i < ws.length := by omega
  obtain ⟨w, hw⟩ : ∃ w, ws[i]? = some w := ⟨_, List.getElem?_eq_getElem hlt⟩
  obtain ⟨o', H1, ha, ho1, f1, _⟩ := push1 ho hfr.size (.int .i64 0) (x := i64 (slen w)) rfl (by_ := 8) (roomy_small (by simp; omega))
  have e1 : ((ws.take i).map fun w => i64 (slen w)) ++ [i64 (slen w)] = (ws.take (i + 1)).map fun w => i64 (slen w) := by
   rw [List.take_add_one, hw]; simp
  rw [e1] at ho1
  obtain ⟨r, H2, h2, f2, a2⟩ := lengthsI_loop C K hv hws hl m (i + 1) fuel H1 o' (by omega) (by omega) (Fr.trans hfr f1) ho1
  refine ⟨r, H2, ?_, f2, a2⟩
  rw [z_loop4]
  simp only [f44_l1, n_lss, decide_eq_true hlt, z_cond, cond_true, (hv.fr hfr).load hw, len_slen (hws w (List.mem_of_getElem? hw)), ha]
  rw [show (SV.int .i64 1) = i64 1 from rfl, n_addi _ (by omega)]
  exact h2
theorem lengthsI_ok (K : Nat) (d : Nat) (H : Heap) (hv : Arr H v ws) (hws : ∀ w ∈ ws, isSlice w) (hl : ws.length < 100000000) (hK : ws.length < K) :
  ∃ r H', runQ wk tab slow K (d + 1) 44 [v] H = some (r, H') /\ Frame H H' /\ Arr H' r ((ws.map slen).map i64) := by
 show ∃ r H', f44 slow K (runQ wk tab slow K d) v H = _ /\ _
 simp only [f44, hv.len]
 exact lengthsI_loop _ K hv hws hl ws.length 0 K H (.slice nilSl) (by omega) hK (Fr.refl _ _) (by simpa using Own.nil H.size H)
end Go.Sh.Of
namespace Go.Sh.Of
open Go
variable {H H' H0 Hi : Heap}
variable {v w l row t x p : SV}
variable {zs : List Int}
variable {i lo r n cols j lo' g q m k : Nat}
variable {z st : Int}
variable {rows A B : List (List Int)}
variable {e cs caps ws : List SV}
variable {els : List (List SV)}
variable {ns : List Nat}
variable {E err : Nat -> Nat -> Int}
variable {s : List UInt8}
variable {f : Nat -> Int}
variable {T : List (List (List UInt8))}
theorem lengthsS_loop (C : CallC) (K : Nat) (hv : Arr H0 v ws) (hws : ∀ w ∈ ws, isSlice w) (hl : ws.length < 100000000) : ∀ (m i fuel : Nat) (H : Heap) (o : SV), i + m = ws.length -> m < fuel -> Frame H0 H -> Own H0.size H o ((ws.take i).map fun w => i64 (slen w)) ->
  ∃ r H', slow.loop4 (f21_l1 slow K C) fuel v o (i64 ws.length) (i64 i) H = some (r, H') /\ Frame H0 H' /\ Arr H' r ((ws.map slen).map i64)
 | 0, i, fuel, H, o, him, hf, hfr, ho => by
  obtain ⟨fuel, rfl⟩ := suc hf
  have hi : i = ws.length := by omega
  subst hi
  rw [List.take_length] at ho
  refine ⟨o, H, ?_, hfr, by rw [List.map_map]; exact ho.arr⟩
  rw [z_loop4]
  have hlt : ¬ ws.length < ws.length := Nat.lt_irrefl _
  simp only [f21_l1, n_lss, decide_eq_false hlt, z_cond, cond_false, z_rest ho.arr.good]
 | m + 1, i, fuel, H, o, him, hf, hfr, ho => by
  obtain ⟨fuel, rfl⟩ := suc hf
  have hlt : i < ws.length := by omega
  obtain ⟨w, hw⟩ : ∃ w, ws[i]? = some w := ⟨_, List.getElem?_eq_getElem hlt⟩
  obtain ⟨o', H1, ha, ho1, f1, _⟩ := push1 ho hfr.size (.int .i64 0) (x := i64 (slen w)) rfl (by_ := 8) (roomy_small (by simp; omega))
  have e1 : ((ws.take i).map fun w => i64 (slen w)) ++ [i64 (slen w)] = (ws.take (i + 1)).map fun w => i64 (slen w) := by
   rw [List.take_add_one, hw]; simp
  rw [e1] at ho1
  obtain ⟨r, H2, h2, f2, a2⟩ := lengthsS_loop C K hv hws hl m (i + 1) fuel H1 o' (by omega) (by omega) (Fr.trans hfr f1) ho1
  refine ⟨r, H2, ?_, f2, a2⟩
  rw [z_loop4]
  simp only [f21_l1, n_lss, decide_eq_true hlt, z_cond, cond_true, (hv.fr hfr).load hw, len_slen (hws w (List.mem_of_getElem? hw)), ha]
  rw [show (SV.int .i64 1) = i64 1 from rfl, n_addi _ (by omega)]
  exact h2
theorem lengthsS_ok (K : Nat) (d : Nat) (H : Heap) (hv : Arr H v ws) (hws : ∀ w ∈ ws, isSlice w) (hl : ws.length < 100000000) (hK : ws.length < K) :
  ∃ r H', runQ wk tab slow K (d + 1) 21 [v] H = some (r, H') /\ Frame H H' /\ Arr H' r ((ws.map slen).map i64) := by
 show ∃ r H', f21 slow K (runQ wk tab slow K d) v H = _ /\ _
 simp only [f21, hv.len]
 exact lengthsS_loop _ K hv hws hl ws.length 0 K H (.slice nilSl) (by omega) hK (Fr.refl _ _) (by simpa using Own.nil H.size H)
end Go.Sh.Of
namespace Go.Sh.Of
open Go
variable {H H' H0 Hi : Heap}
variable {v w l row t x p : SV}
variable {zs : List Int}
variable {i lo r n cols j lo' g q m k : Nat}
variable {z st : Int}
variable {rows A B : List (List Int)}
variable {e cs caps ws : List SV}
variable {els : List (List SV)}
variable {ns : List Nat}
variable {E err : Nat -> Nat -> Int}
variable {s : List UInt8}
variable {f : Nat -> Int}
variable {T : List (List (List UInt8))}
def ent (rows : List (List Int)) (i j : Nat) : Int := (((rows[i]?).getD [])[j]?).getD 0
def colsOf (rows : List (List Int)) : Nat := ((rows[0]?).getD []).length
theorem ent_get {r : List Int} (hr : rows[i]? = some r) (hz : r[j]? = some z) : ent rows i j = z := by simp [ent, hr, hz]
def Shaped (rows : List (List Int)) : Prop := rows.length <= 16 /\ ∀ r ∈ rows, 1 <= r.length /\ r.length <= 16 /\ r.length = colsOf rows
theorem shapedB_iff : shapedB (rows.map List.length) = true ↔ rows = [] \/ Shaped rows := by
 unfold shapedB Shaped
 rw [List.all_eq_true]
 cases rows with
 | nil => simp
 | cons r0 rows =>
  have hc : colsOf (r0 :: rows) = r0.length := rfl
  simp only [List.length_map, List.map_cons, List.getElem?_cons_zero, Bool.and_eq_true, decide_eq_true_eq, Option.some.injEq, hc]
  constructor
  ·intro h
   right
   refine ⟨by simpa using (h r0.length (by simp)).1, fun r hr => ?_⟩
   have := h r.length (by
    rcases List.mem_cons.1 hr with rfl | hr
    ·simp
    ·exact List.mem_cons_of_mem _ (List.mem_map_of_mem hr))
   exact ⟨this.2.1, this.2.2.1, this.2.2.2⟩
  ·rintro (h | ⟨h1, h2⟩)
   ·cases h
   ·intro n hn
    obtain ⟨r, hr, rfl⟩ : ∃ r ∈ r0 :: rows, r.length = n := by
     rcases List.mem_cons.1 hn with rfl | hn
     ·exact ⟨r0, by simp, rfl⟩
     ·obtain ⟨r, hr, rfl⟩ := List.mem_map.1 hn
      exact ⟨r, by simp [hr], rfl⟩
    have := h2 r hr
    exact ⟨by simpa using h1, this.1, this.2.1, this.2.2⟩
theorem matOfE_self (h : ∀ r ∈ rows, r.length = colsOf rows) : matOfE (ent rows) rows.length (colsOf rows) = rows := by
 apply List.ext_getElem?
 intro i
 by_cases hi : i < rows.length
 ·have hr : rows[i]? = some rows[i] := List.getElem?_eq_getElem hi
  have hl := h rows[i] (List.getElem_mem hi)
  simp only [matOfE, List.getElem?_map, List.getElem?_range hi, Option.map_some]
  rw [hr]
  congr 1
  apply List.ext_getElem?
  intro j
  by_cases hj : j < colsOf rows
  ·have hz : (rows[i])[j]? = some (rows[i])[j] := List.getElem?_eq_getElem (by omega)
   rw [rowOfE_get hj, hz, ent_get hr hz]
  ·rw [List.getElem?_eq_none (by rw [rowOfE_len]; omega), List.getElem?_eq_none (by omega)]
 ·rw [List.getElem?_eq_none (by simp [matOfE]; omega), List.getElem?_eq_none (by omega)]
def ofErr (rows : List (List Int)) : Int := if shapedB (rows.map List.length) then 0 else 5
def ofMat (rows : List (List Int)) : List (List Int) := if shapedB (rows.map List.length) then rows else []
theorem slices_map (hl : ws.length = ns.length) (h : ∀ (i : Nat) (w : SV) (n : Nat), ws[i]? = some w -> ns[i]? = some n -> slen w = n) : ws.map slen = ns := by
 apply List.ext_getElem?
 intro i
 rw [List.getElem?_map]
 by_cases hi : i < ws.length
 ·have h1 : ws[i]? = some ws[i] := List.getElem?_eq_getElem hi
  have h2 : ns[i]? = some ns[i] := List.getElem?_eq_getElem (by omega)
  rw [h1, h2, Option.map_some, h i _ _ h1 h2]
 ·rw [List.getElem?_eq_none (by omega), List.getElem?_eq_none (by omega)]; rfl
theorem mof_entry (K : Nat) (hK : 2 < K) (d : Nat) (hp : Holds H0 p v) (hv : IsInts2 H0 v rows) (hsm : ∀ r ∈ rows, ∀ z ∈ r, I64 z) (hcol : ∀ r ∈ rows, r.length = colsOf rows) :
  EntryOk (runQ wk tab slow K (d + 4)) 45 [p] H0 rows.length (colsOf rows) (ent rows) := fun i j H hi hj hf => by
 obtain ⟨r, hr⟩ : ∃ r, rows[i]? = some r := ⟨_, List.getElem?_eq_getElem hi⟩
 have hl := hcol r (List.mem_of_getElem? hr)
 obtain ⟨z, hz⟩ : ∃ z, r[j]? = some z := ⟨_, List.getElem?_eq_getElem (by omega)⟩
 have hs := hsm r (List.mem_of_getElem? hr) z (List.mem_of_getElem? hz)
 obtain ⟨w, hw, ha⟩ := (hv.fr hf).load (i := i) (cs := intsL .i64 r) (by simp [hr])
 obtain ⟨q, H1, h1, f1, hq⟩ := zof_ok K hK (d + 0) H hs.1 hs.2
 rw [ent_get hr hz]
 obtain ⟨sl, rfl, h2, h3⟩ := hq
 show ∃ r H', f45 slow K (runQ wk tab slow K (d + 3)) (i64 i) (i64 j) p H = _ /\ _
 refine ⟨_, H1, ?_, f1, sl, rfl, h2, h3⟩
 simp only [f45, (hp.fr hf).load, hw, ha.load (ints_get hz), h1, z_call, z_bst2, z_resc2]
theorem mof_ok (K : Nat) (hK : 100000 < K) (d : Nat) (H : Heap) {rows : List (List Int)} (hv : IsInts2 H v rows) (hsm : ∀ r ∈ rows, ∀ z ∈ r, I64 z) (hrl : rows.length < 100000) :
  ∃ r H', runQ wk tab slow K (d + 6) 17 [v] H = some (.tuple [r, .int .i64 (ofErr rows)], H') /\ Frame H H' /\ IsMatF H.size H' r (ofMat rows) := by
 show ∃ r H', f17 slow K (runQ wk tab slow K (d + 5)) v H = _ /\ _
 obtain ⟨p, H1, hb, f1, hp, hpg⟩ := z_boxH hv.flat H
 have hv1 := hv.fr f1
 obtain ⟨ws, hws, hwl, hwr⟩ := hv1
 have hwl' : ws.length = rows.length := by simpa using hwl
 have hwr' : ∀ (i : Nat) w r, ws[i]? = some w -> rows[i]? = some r -> isSlice w /\ slen w = r.length := fun i w r hw hr => by have := Arr.slen (hwr i w (intsL .i64 r) hw (by simp [hr])); simpa using this
 have hsl : ∀ w ∈ ws, isSlice w := fun w hw => by
  obtain ⟨i, hi⟩ := List.getElem?_of_mem hw
  obtain ⟨r, hr⟩ : ∃ r, rows[i]? = some r := ⟨_, List.getElem?_eq_getElem (by have := (List.getElem?_eq_some_iff.1 hi).1; omega)⟩
  exact (hwr' i w r hi hr).1
 obtain ⟨u, H2, h2, f2, a2⟩ := lengthsI_ok K (d + 4) H1 hws hsl (by omega) (by omega)
 have hmap : ws.map slen = rows.map List.length := slices_map (by simp [hwl']) fun i w n hw hn => by
  rw [List.getElem?_map, Option.map_eq_some_iff] at hn
  obtain ⟨r, hr, rfl⟩ := hn
  exact (hwr' i w r hw hr).2
 rw [hmap] at a2
 have h3 := shaped_ok K (d + 4) H2 a2 (by simp; omega) hK
 have fq12 := Frame.trans f1 f2
 have hp2 := hp.fr f2
 have hws2 := hws.fr f2
 have hlen : ∀ k, slow.len v k = k (i64 rows.length) := fun k => by rw [hws2.len, hwl']
 simp only [f17, hb, hp.load, h2, z_call, h3, z_not, z_cond]
 cases hsh : shapedB (rows.map List.length) with
 | false =>
  have e1 : ofErr rows = 5 := by unfold ofErr; rw [hsh]; rfl
  have e2 : ofMat rows = [] := by unfold ofMat; rw [hsh]; rfl
  rw [e1, e2]
  simp only [Bool.not_false, cond_true, z_build0, z_bst1, z_resc1]
  exact ⟨_, H2, rfl, fq12, IsMatF.nil _ H2⟩
 | true =>
  have e1 : ofErr rows = 0 := by unfold ofErr; rw [hsh]; rfl
  have e2 : ofMat rows = rows := by unfold ofMat; rw [hsh]; rfl
  rw [e1, e2]
  simp only [Bool.not_true, cond_false, hp2.load, hlen, z_eql, z_cond]
  by_cases h0 : rows = []
  ·have hz : ((rows.length : Int) == 0) = true := by rw [h0]; rfl
   simp only [hz, cond_true, z_build0, z_bst1, z_resc1]
   rw [h0]
   exact ⟨_, H2, rfl, fq12, IsMatF.nil _ H2⟩
  ·have hpos := List.length_pos_iff.2 h0
   have hz : ((rows.length : Int) == 0) = false := beq_eq_false_iff_ne.2 (by omega)
   obtain ⟨g1, g2⟩ := (shapedB_iff.1 hsh).resolve_left h0
   have hcol : ∀ r ∈ rows, r.length = colsOf rows := fun r hr => (g2 r hr).2.2
   obtain ⟨r0, hr0⟩ : ∃ r, rows[0]? = some r := ⟨_, List.getElem?_eq_getElem hpos⟩
   obtain ⟨w0, hw0⟩ : ∃ w, ws[0]? = some w := ⟨_, List.getElem?_eq_getElem (by omega)⟩
   have hc0 : colsOf rows = r0.length := by simp [colsOf, hr0]
   have hl0 : ∀ k, slow.len w0 k = k (i64 (colsOf rows)) := fun k => by
    rw [len_slen (hwr' 0 w0 r0 hw0 hr0).1, (hwr' 0 w0 r0 hw0 hr0).2, hc0]
   have hld : ∀ k, slow.idx 1 v (.int .i64 0) (fun p => slow.load 1 false p H2 k) = k w0 := fun k => hws2.load (i := 0) hw0 .i64 k
   have hc16 : colsOf rows <= 16 := by rw [hc0]; exact (g2 r0 (List.mem_of_getElem? hr0)).2.1
   obtain ⟨q, H3, h4, f3, hm⟩ := made_ok K hK (d + 4) (H0 := H2) (rows := rows.length) (cols := colsOf rows) (by omega) (by omega) (mof_entry K (by omega) d hp2 (hv.fr fq12) hsm hcol)
   rw [matOfE_self hcol] at hm
   obtain ⟨mw, rfl, hmr⟩ := hm
   simp only [hz, cond_false, hld, hl0, z_mkfn0 _ hpg, h4, z_call, z_bst1, z_resc1]
   exact ⟨_, H3, rfl, Frame.trans fq12 f3, IsMatF.mono ⟨mw, rfl, hmr⟩ fq12.size⟩
end Go.Sh.Of
namespace Go.Sh.Of
open Go
variable {H H' H0 Hi : Heap}
variable {v w l row t x p : SV}
variable {zs : List Int}
variable {i lo r n cols j lo' g q m k : Nat}
variable {z st : Int}
variable {rows A B : List (List Int)}
variable {e cs caps ws : List SV}
variable {els : List (List SV)}
variable {ns : List Nat}
variable {E err : Nat -> Nat -> Int}
variable {s : List UInt8}
variable {f : Nat -> Int}
variable {T : List (List (List UInt8))}
theorem Arr.keepG (h : Arr H v cs) {X : Nat -> Prop} (hX : ∀ c0 ∈ cs, ∀ r row, X r -> H.get r = some row -> ∀ c ∈ row.cells, c ≠ c0) (hro : ∀ r, ¬ X r -> r < H.size -> H'.get r = H.get r) : Arr H' v cs := by
 obtain ⟨s, rfl, h2, h3⟩ := h
 refine ⟨s, rfl, h2, ?_⟩
 rcases h3 with h3 | ⟨r, o, row, b1, b2, b3, b4⟩
 ·exact .inl h3
 ·cases cs with
  | nil => left; rfl
  | cons c cs =>
   right
   have h0 := b4 0 c rfl
   have hne : ¬ X r := fun hx => hX c (by simp) r row hx b2 _ (List.mem_of_getElem? h0) rfl
   exact ⟨r, o, row, b1, by rw [hro r hne (Heap.get_lt b2)]; exact b2, b3, b4⟩
theorem IsInt.keepU (h : IsInt H v z) {X : Nat -> Prop} (hX : ∀ r row, X r -> H.get r = some row -> ∀ c ∈ row.cells, ∀ n, c ≠ .int .u32 n) (hro : ∀ r, ¬ X r -> r < H.size -> H'.get r = H.get r) : IsInt H' v z := by
 obtain ⟨sl, rfl, ha, hf⟩ := h
 refine ⟨sl, rfl, Arr.keepG ha (fun c0 hc0 r row hx hg c hc => ?_) hro, hf⟩
 obtain ⟨d, _, rfl⟩ := List.mem_map.1 hc0
 exact hX r row hx hg c hc _
theorem IsZs.keepU (h : IsZs H v zs) {X : Nat -> Prop} (hv : ∀ r, inRow v r -> ¬ X r) (hX : ∀ r row, X r -> H.get r = some row -> ∀ c ∈ row.cells, ∀ n, c ≠ .int .u32 n) (hro : ∀ r, ¬ X r -> r < H.size -> H'.get r = H.get r) : IsZs H' v zs := by
 obtain ⟨els, h1, h2, h3⟩ := h
 refine ⟨els, ?_, h2, fun i e z he hz => (h3 i e z he hz).keepU hX hro⟩
 obtain ⟨s, rfl, g1, g0, g3⟩ := h1
 refine ⟨s, rfl, g1, g0, ?_⟩
 rcases g3 with g3 | ⟨r, o, row, b1, b2, b3, b4⟩
 ·exact .inl g3
 ·exact .inr ⟨r, o, row, b1, by rw [hro r (hv r ⟨s, o, rfl, b1⟩) (Heap.get_lt b2)]; exact b2, b3, b4⟩
def FrQ (q lo : Nat) (H H' : Heap) : Prop := H.size <= H'.size /\ ∀ r, r < lo -> r ≠ q -> H'.get r = H.get r
theorem FrQ.refl (q lo : Nat) (H : Heap) : FrQ q lo H H := ⟨Nat.le_refl _, fun _ _ _ => rfl⟩
theorem FrQ.trans {H'' : Heap} (h : FrQ q lo H H') (h' : FrQ q lo H' H'') : FrQ q lo H H'' := ⟨Nat.le_trans h.1 h'.1, fun r hr hn => (h'.2 r hr hn).trans (h.2 r hr hn)⟩
theorem FrQ.mono (h : FrQ q lo H H') (hl : lo' <= lo) : FrQ q lo' H H' := ⟨h.1, fun r hr hn => h.2 r (Nat.lt_of_lt_of_le hr hl) hn⟩
theorem FrQ.of_fr (h : Fr lo H H') : FrQ q lo H H' := ⟨h.size, fun r hr _ => h.rows r hr⟩
def Box (q : Nat) (H : Heap) (st : Int) : Prop := ∃ ver, H.get q = some ⟨2, 1, ver, [.int .i64 st]⟩
theorem Box.of_get (h : Box q H st) (e : H'.get q = H.get q) : Box q H' st := by
 obtain ⟨ver, hv⟩ := h
 exact ⟨ver, e.trans hv⟩
theorem Box.fr (h : Box q H st) (f : Fr lo H H') (hq : q < lo) : Box q H' st := h.of_get (f.rows q hq)
theorem Box.lt (h : Box q H st) : q < H.size := by
 obtain ⟨ver, hv⟩ := h
 exact Heap.get_lt hv
theorem Box.holds (h : Box q H st) : Holds H (.ptr (q, 0)) (.int .i64 st) := by
 obtain ⟨ver, hv⟩ := h
 exact ⟨q, _, rfl, hv, by simp, rfl⟩
theorem Box.store (h : Box q H st) (st' : Int) : ∃ H', (∀ k, slow.store 1 (.ptr (q, 0)) (.int .i64 st') H k = k H') /\ Box q H' st' /\ H'.size = H.size /\ ∀ r, r ≠ q -> H'.get r = H.get r := by
 obtain ⟨ver, hv⟩ := h
 refine ⟨H.set q ⟨2, 1, ver + 1, [.int .i64 st']⟩, fun k => ?_, ⟨ver + 1, Heap.get_set_self hv _⟩, rfl, fun r hr => Heap.get_set_ne _ (Ne.symm hr) _⟩
 show (opE (.store 1) [.ptr (q, 0), .int .i64 st'] H).bind _ = _
 have hb1 : Nat.beq ([SV.int .i64 st'] : List SV).length 1 = true := rfl
 have hb2 : Nat.beq 2 2 = true := rfl
 simp only [opE, SV.item, SV.cells, SV.flat, hb1, Bool.true_and, Bool.and_true, cond_true, Heap.write, hv, hb2, splice_one (cs := [SV.int .i64 st]) (i := 0) (by simp) (.int .i64 st'), Option.map_some, Option.bind_some, List.set_cons_zero]
theorem Box.cells (h : Box q H st) : ∀ r row, r = q -> H.get r = some row -> ∀ c ∈ row.cells, ∀ n, c ≠ .int .u32 n := fun r row e hg c hc n => by
 subst e
 obtain ⟨ver, hv⟩ := h
 rw [hv] at hg
 cases hg
 rw [List.mem_singleton.1 hc]
 intro e
 cases e
theorem IsInt.fq (h : IsInt H v z) (b : Box q H st) (f : FrQ q H.size H H') : IsInt H' v z :=
 h.keepU (X := fun r => r = q) b.cells fun r hr hlt => f.2 r hlt hr
theorem OwnS.fq (h : OwnS n lo H v els) (f : FrQ q H.size H H') (hq : q < lo) : OwnS n lo H' v els :=
 OwnS.of_rows h fun r hr => f.2 r (by
  obtain ⟨_, base, rfl, h⟩ := h
  obtain ⟨s, o, e, h4⟩ := hr
  cases e
  rcases h with ⟨rfl, _⟩ | ⟨r', ver, rfl, h2, h3⟩
  ·cases h4
  ·cases h4; exact Heap.get_lt h3) (by have := OwnS.geA h hr; omega)
def stIn (err : Nat -> Nat -> Int) (i : Nat) : Nat -> Nat -> Int -> Int
 | j, 0, st => st
 | j, m + 1, st => stIn err i (j + 1) m (if st = 0 then err i j else st)
def stOut (err : Nat -> Nat -> Int) (cols : Nat) : Nat -> Nat -> Int -> Int
 | i, 0, st => st
 | i, m + 1, st => stOut err cols (i + 1) m (stIn err i 0 cols st)
theorem stIn_ne : ∀ {m j : Nat} {st : Int}, st ≠ 0 -> stIn err i j m st = st
 | 0, j, st, h => rfl
 | m + 1, j, st, h => by simp only [stIn, if_neg h]; exact stIn_ne h
theorem stIn_zero (h : stIn err i j m st = 0) : st = 0 := Decidable.byContradiction fun hn => hn (by rw [stIn_ne hn] at h; exact h)
theorem stOut_ne : ∀ {m i : Nat} {st : Int}, st ≠ 0 -> stOut err cols i m st = st
 | 0, i, st, h => rfl
 | m + 1, i, st, h => by simp only [stOut, stIn_ne h]; exact stOut_ne h
def EntryQ (C : CallC) (g : Nat) (caps : List SV) (H0 : Heap) (q rows cols : Nat) (E err : Nat -> Nat -> Int) : Prop :=
 ∀ i j H st, i < rows -> j < cols -> FrQ q H0.size H0 H -> Box q H st -> ∃ r H', C g ([] ++ ([i64 i, i64 j] ++ caps)) H = some (r, H') /\ FrQ q H.size H H' /\ Box q H' (if st = 0 then err i j else st) /\ ∃ z, IsInt H' r z /\ (st = 0 -> err i j = 0 -> z = E i j)
theorem made_inQ (C : CallC) (K : Nat) {rows : Nat} (hq : q < H0.size) (hcols : cols < 100000) (hrows : rows < 100000) (hE : EntryQ C g caps H0 q rows cols E err) (h0i : FrQ q H0.size H0 Hi) (hl : Own H0.size Hi l ws) (hwl : ws.length < 100000) (hws : ∀ w ∈ ws, isSlice w) {i : Nat} (hi : i < rows) (bx : SV) (k8 : SV -> SV -> SV -> SV -> SV -> SV -> Heap -> Rs) : ∀ (m j fuel : Nat) (H : Heap) (els : List (List SV)) (st : Int), j + m = cols -> m < fuel -> FrQ q Hi.size Hi H -> Box q H st -> OwnS 2 Hi.size H row els -> els.length = cols -> (∀ e ∈ els, zCell e) -> (st = 0 -> ∀ (p : Nat) e, p < j -> els[p]? = some e -> IsInt H (.agg e) (E i p)) ->
  ∃ l' H', slow.loop10 (f22_l3 slow K C k8) fuel (i64 cols) (.fn g [] caps) bx l (i64 i) row (i64 rows) (i64 i) (i64 cols) (i64 j) H = k8 (i64 cols) (.fn g [] caps) bx l' (i64 rows) (i64 (i + 1)) H' /\ FrQ q H0.size Hi H' /\ Box q H' (stIn err i j m st) /\ (∀ r, ¬ inRow l r -> r ≠ q -> r < Hi.size -> H'.get r = Hi.get r) /\ Own H0.size H' l' (ws ++ [row]) /\ isSlice row /\ (∀ r, inRow row r -> Hi.size <= r) /\ (stIn err i j m st = 0 -> IsZs H' row (rowOfE E cols i))
 | 0, j, fuel, H, els, st, hjm, hf, hfr, hb, ho, hel, hcell, hdone => by
  obtain ⟨fuel, rfl⟩ := suc hf
  have hj : j = cols := by omega
  subst hj
  have hle := h0i.1
  have hlH : Own H0.size H l ws := Own.of_rows hl fun r hr => hfr.2 r (Own.lt hl hr) (by have := Own.geA hl hr; omega)
  obtain ⟨u, H1, hu, hou, hfu, hru, hsz⟩ := z_lay1 (H := H) (lo := H.size) (Nat.le_refl _) (.slice nilSl) (x := row) ho.arr.flat
  have hl1 := hlH.fr hfu
  obtain ⟨l', H2, ha, ho2, hf2, hrw, hin, _⟩ := hl1.append (Nat.le_trans hle (Nat.le_trans hfr.1 hfu.size)) hou.arr (by_ := 24) (roomy_small (by simp; omega))
  have hqH : q < H.size := hb.lt
  have hql : ¬ inRow l q := fun hx => by have := Own.geA hl hx; omega
  have keep : ∀ r, ¬ inRow l r -> r < H.size -> H2.get r = H.get r := fun r hr hrH => by
   rw [hrw r hr (Nat.lt_of_lt_of_le hrH hfu.size), hfu.rows r hrH]
  refine ⟨l', H2, ?_, ?_, ?_, ?_, ho2, ?_, fun r hr => OwnS.geA ho hr, ?_⟩
  ·rw [z_loop10]
   have hlt : ¬ j < j := Nat.lt_irrefl j
   simp only [f22_l3, n_lss, decide_eq_false hlt, z_cond, cond_false, hu, ha]
   rw [show (SV.int .i64 1) = i64 1 from rfl, n_addi _ (by omega)]
  ·exact (hfr.mono hle).trans ((FrQ.of_fr (hfu.mono (Nat.le_trans hle hfr.1))).trans (FrQ.of_fr hf2))
  ·exact hb.of_get (keep q hql hqH)
  ·intro r hr hne hlt
   rw [keep r hr (Nat.lt_of_lt_of_le hlt hfr.1), hfr.2 r hlt hne]
  ·obtain ⟨_, base, rfl, _⟩ := ho
   trivial
  ·intro h0
   have hz : IsZs H row (rowOfE E j i) := ⟨els, ho.arr, by rw [rowOfE_len, hel], fun p e z he hz => by
    have hp : p < j := by have := (List.getElem?_eq_some_iff.1 he).1; omega
    rw [rowOfE_get hp] at hz
    cases hz
    exact hdone h0 p e hp he⟩
   refine (hz.fr hfu).keep (X := fun r => inRow l r) (fun r rw hr hg c hc => ?_) hrw
   have := Own.cells hl1 hr hg
   rw [this] at hc
   exact hws c hc
 | m + 1, j, fuel, H, els, st, hjm, hf, hfr, hb, ho, hel, hcell, hdone => by
  obtain ⟨fuel, rfl⟩ := suc hf
  have hlt : j < cols := by omega
  have hle := h0i.1
  obtain ⟨r, H1, h1, f1, b1, z, hr, hz⟩ := hE i j H st hi hlt (h0i.trans (hfr.mono hle)) hb
  obtain ⟨sl, rfl, hsl, hslf⟩ := hr
  have hint : IsInt H1 (.agg [.bool (decide (z < 0)), sl]) z := ⟨sl, rfl, hsl, hslf⟩
  have ho1 := OwnS.fq ho f1 (by omega)
  obtain ⟨H2, st2, ho2, f2, sz2, hro⟩ := ho1.store (i := j) (by omega) (e := [.bool (decide (z < 0)), sl]) rfl .i64
  have hX : ∀ r row', inRow row r -> H1.get r = some row' -> ∀ c ∈ row'.cells, ∀ kd n, c ≠ .int kd n := fun r row' hr hg => by
   rw [OwnS.cells ho1 hr hg]
   exact zCells_flat hcell
  have b2 : Box q H2 (if st = 0 then err i j else st) := b1.fr f2 (by omega)
  obtain ⟨l', H3, h3, rest⟩ := made_inQ C K hq hcols hrows hE h0i hl hwl hws hi bx k8 m (j + 1) fuel H2 (els.set j [.bool (decide (z < 0)), sl]) _ (by omega) (by omega) (hfr.trans ((f1.mono hfr.1).trans (FrQ.of_fr f2))) b2 ho2 (by simpa using hel) (fun e he => by
   rcases List.mem_or_eq_of_mem_set he with he | rfl
   ·exact hcell e he
   ·exact hint.cell) (fun hst p e hp he => by
    by_cases hs : st = 0
    ·rw [if_pos hs] at hst
     by_cases hpj : p = j
     ·subst hpj
      rw [List.getElem?_set_self (by omega)] at he
      cases he
      rw [<- hz hs hst]
      exact hint.keep hX fun r hr _ => hro r hr
     ·rw [List.getElem?_set_ne (Ne.symm hpj)] at he
      exact ((hdone hs p e (by omega) he).fq hb f1).keep hX fun r hr _ => hro r hr
    ·rw [if_neg hs] at hst
     exact absurd hst hs)
  refine ⟨l', H3, ?_, rest⟩
  rw [z_loop10]
  simp only [f22_l3, n_lss, decide_eq_true hlt, z_cond, cond_true, z_callv, h1, z_call, st2]
  rw [show (SV.int .i64 1) = i64 1 from rfl, n_addi _ (by omega)]
  exact h3
theorem made_outQ (C : CallC) (K : Nat) (hK : 100000 < K) {rows : Nat} (hq : q < H0.size) (hcols : cols < 100000) (hrows : rows < 100000) (hE : EntryQ C g caps H0 q rows cols E err) : ∀ (m i fuel : Nat) (H : Heap) (l : SV) (ws : List SV) (st : Int), i + m = rows -> m < fuel -> FrQ q H0.size H0 H -> Box q H st -> Own H0.size H l ws -> ws.length = i -> (∀ w ∈ ws, isSlice w) -> (∀ (p : Nat) (w : SV), ws[p]? = some w -> ∀ r, inRow w r -> H0.size <= r) -> (st = 0 -> ∀ (p : Nat) (w : SV), ws[p]? = some w -> IsZs H w (rowOfE E cols p)) ->
  ∃ r H', slow.loop6 (f22_l1 slow K C) fuel (i64 cols) (.fn g [] caps) (.box [.slice nilSl]) l (i64 rows) (i64 i) H = some (r, H') /\ FrQ q H0.size H0 H' /\ Box q H' (stOut err cols i m st) /\ (∃ w, r = .agg [w]) /\ (stOut err cols i m st = 0 -> IsMatF H0.size H' r (matOfE E rows cols))
 | 0, i, fuel, H, l, ws, st, him, hf, hfr, hb, ho, hwl, hws, hge, hdone => by
  obtain ⟨fuel, rfl⟩ := suc hf
  have hi : i = rows := by omega
  subst hi
  refine ⟨.agg [l], H, ?_, hfr, hb, ⟨_, rfl⟩, fun h0 => ⟨l, rfl, fun r hr => Own.geA ho hr, ws, ho.arr, by simp [matOfE, hwl], fun p w zs hw hz => ?_⟩⟩
  ·rw [z_loop6]
   have hlt : ¬ i < i := Nat.lt_irrefl i
   simp only [f22_l1, n_lss, decide_eq_false hlt, z_cond, cond_false, z_build1 _ _ ho.arr.flat, z_bst1, z_resc1]
  ·have hp : p < i := by have := (List.getElem?_eq_some_iff.1 hw).1; omega
   simp [matOfE, hp] at hz
   subst hz
   exact ⟨hdone h0 p w hw, hge p w hw⟩
 | m + 1, i, fuel, H, l, ws, st, him, hf, hfr, hb, ho, hwl, hws, hge, hdone => by
  obtain ⟨fuel, rfl⟩ := suc hf
  have hlt : i < rows := by omega
  obtain ⟨row, H1, h1, ho1, f1, hin1, sz1⟩ := z_makeS (H := H) (lo := H.size) (Nat.le_refl _) 2 32 (by decide) [.bool false, .slice nilSl] rfl cols (by omega) (roomy_small (by omega)) .i64 .i64
  obtain ⟨l', H2, h2, f2, b2, hro2, ho2, hs2, hg2, hz2⟩ := made_inQ C K hq hcols hrows hE hfr (Hi := H) ho (by omega) hws hlt (.box [.slice nilSl]) (slow.loop6 (f22_l1 slow K C) fuel) (row := row) cols 0 K H1 (List.replicate cols [.bool false, .slice nilSl]) st (by omega) (by omega) (FrQ.of_fr f1) (hb.fr f1 hb.lt) ho1 (by simp) (fun e he => by rw [List.eq_of_mem_replicate he]; exact ⟨_, _, rfl⟩) (fun _ p e hp => by omega)
  obtain ⟨r, H3, h3, rest⟩ := made_outQ C K hK hq hcols hrows hE m (i + 1) fuel H2 l' (ws ++ [row]) _ (by omega) (by omega) (hfr.trans f2) b2 ho2 (by simp [hwl]) (fun v hv => by
   rcases List.mem_append.1 hv with hv | hv
   ·exact hws v hv
   ·rw [List.mem_singleton.1 hv]; exact hs2) (fun p v hv r hr => by
    by_cases hp : p < ws.length
    ·rw [List.getElem?_append_left hp] at hv
     exact hge p v hv r hr
    ·have hp2 : p = ws.length := by have := (List.getElem?_eq_some_iff.1 hv).1; simp at this; omega
     subst hp2
     simp at hv
     subst hv
     exact Nat.le_trans hfr.1 (hg2 r hr)) (fun hst p v hv => by
    by_cases hp : p < ws.length
    ·rw [List.getElem?_append_left hp] at hv
     have hX : ∀ r row', (inRow l r \/ r = q) -> H.get r = some row' -> ∀ c ∈ row'.cells, ∀ n, c ≠ .int .u32 n := fun r row' hx hg => by
      rcases hx with hx | hx
      ·intro c hc n
       rw [Own.cells ho hx hg] at hc
       exact isSlice_not_int (hws c hc) _ _
      ·exact hb.cells r row' hx hg
     have hz := hdone (stIn_zero hst) p v hv
     by_cases hd : ∃ r, inRow v r /\ inRow l r
     ·obtain ⟨r, hv1, hl1⟩ := hd
      obtain ⟨els, ⟨s, rfl, g1, g0, g3⟩, g2, g4⟩ := hz
      have hnil : els = [] := by
       rcases g3 with g3 | ⟨r', o, row', c1, c2, c3, c4⟩
       ·exact g3
       ·cases els with
        | nil => rfl
        | cons e els =>
         exfalso
         have hr' : r' = r := by
          obtain ⟨s', o', e1, e2⟩ := hv1
          cases e1
          rw [c1] at e2
          cases e2
          rfl
         subst hr'
         obtain ⟨z, hz⟩ : ∃ z, (rowOfE E cols p)[0]? = some z := ⟨_, List.getElem?_eq_getElem (by simp at g2; omega)⟩
         obtain ⟨b, s', rfl⟩ := (g4 0 e z rfl hz).cell
         have h0 := c4 0 _ rfl 0 _ rfl
         have := List.mem_of_getElem? h0
         rw [Own.cells ho hl1 c2] at this
         exact hws _ this
      subst hnil
      exact ⟨[], ⟨s, rfl, g1, g0, .inl rfl⟩, g2, fun i e z he => by simp at he⟩
     ·exact hz.keepU (X := fun r => inRow l r \/ r = q) (fun r hr hx => by
       rcases hx with hx | hx
       ·exact hd ⟨r, hr, hx⟩
       ·have := hge p v hv r hr; omega) hX fun r hr hlt => hro2 r (fun hx => hr (.inl hx)) (fun hx => hr (.inr hx)) hlt
    ·have hp2 : p = ws.length := by have := (List.getElem?_eq_some_iff.1 hv).1; simp at this; omega
     subst hp2
     simp at hv
     subst hv
     rw [hwl]; exact hz2 hst)
  refine ⟨r, H3, ?_, rest⟩
  rw [z_loop6]
  simp only [f22_l1, n_lss, decide_eq_true hlt, z_cond, cond_true, h1]
  rw [ho1.arr.len, List.length_replicate, show (SV.int .i64 0) = i64 0 from rfl, h2]
  exact h3
theorem made_okQ (K : Nat) (hK : 100000 < K) (d : Nat) {rows : Nat} (hcols : cols < 100000) (hrows : rows < 100000) (hb : Box q H0 0) (hE : EntryQ (runQ wk tab slow K d) g caps H0 q rows cols E err) :
  ∃ r H', runQ wk tab slow K (d + 1) 22 [i64 rows, i64 cols, .fn g [] caps] H0 = some (r, H') /\ FrQ q H0.size H0 H' /\ Box q H' (stOut err cols 0 rows 0) /\ (∃ w, r = .agg [w]) /\ (stOut err cols 0 rows 0 = 0 -> IsMatF H0.size H' r (matOfE E rows cols)) := by
 show ∃ r H', f22 slow K (runQ wk tab slow K d) (i64 rows) (i64 cols) (.fn g [] caps) H0 = _ /\ _
 exact made_outQ _ K hK hb.lt hcols hrows hE rows 0 K H0 (.slice nilSl) [] 0 (by omega) (by omega) (FrQ.refl _ _ _) hb (Own.nil _ _) rfl (fun w hw => by cases hw) (fun p w hw => by simp at hw) (fun _ p w hw => by simp at hw)
end Go.Sh.Of
namespace Go.Sh.Of
open Go
variable {H H' H0 Hi : Heap}
variable {v w l row t x p : SV}
variable {zs : List Int}
variable {i lo r n cols j lo' g q m k : Nat}
variable {z st : Int}
variable {rows A B : List (List Int)}
variable {e cs caps ws : List SV}
variable {els : List (List SV)}
variable {ns : List Nat}
variable {E err : Nat -> Nat -> Int}
variable {s : List UInt8}
variable {f : Nat -> Int}
variable {T : List (List (List UInt8))}
theorem matOfE_len (E : Nat -> Nat -> Int) (n k : Nat) : (matOfE E n k).length = n := by simp [matOfE]
theorem matOfE_get (h : i < n) : (matOfE E n k)[i]? = some (rowOfE E k i) := by simp [matOfE, h]
theorem ent_matOfE (hi : i < n) (hj : j < k) : ent (matOfE E n k) i j = E i j := ent_get (matOfE_get hi) (rowOfE_get hj)
theorem colsOf_matOfE (h : 0 < n) : colsOf (matOfE E n k) = k := by
 unfold colsOf
 rw [matOfE_get h, Option.getD_some, rowOfE_len]
structure Good (A : List (List Int)) : Prop where
 rect : ∀ r ∈ A, r.length = colsOf A
 cols : A ≠ [] -> 1 <= colsOf A /\ colsOf A <= 16
 rows : A.length <= 16
 big : ∀ r ∈ A, ∀ z ∈ r, z.natAbs < 2 ^ 4096
theorem Good.nil : Good [] := ⟨(fun r hr => by cases hr), (fun h => absurd rfl h), by simp, (fun r hr => by cases hr)⟩
theorem Good.c16 (h : Good A) : colsOf A <= 16 := by
 by_cases ha : A = []
 ·subst ha; simp [colsOf]
 ·exact (h.cols ha).2
theorem Good.at (h : Good A) (hi : i < A.length) (hj : j < colsOf A) : ∃ r, A[i]? = some r /\ r[j]? = some (ent A i j) /\ (ent A i j).natAbs < 2 ^ 4096 := by
 have h1 : A[i]? = some A[i] := List.getElem?_eq_getElem hi
 have hm := List.getElem_mem hi
 have hl := h.rect _ hm
 have h2 : (A[i])[j]? = some (A[i])[j] := List.getElem?_eq_getElem (by omega)
 refine ⟨_, h1, ?_⟩
 rw [ent_get h1 h2]
 exact ⟨h2, h.big _ hm _ (List.getElem_mem _)⟩
theorem Good.ofE {E : Nat -> Nat -> Int} {n k : Nat} (hn : n <= 16) (hk : k <= 16) (h0 : 0 < n -> 0 < k) (hE : ∀ i j, i < n -> j < k -> (E i j).natAbs < 2 ^ 4096) : Good (matOfE E n k) := by
 by_cases hz : n = 0
 ·subst hz; exact Good.nil
 ·have hp : 0 < n := by omega
  have hc := colsOf_matOfE (E := E) (k := k) hp
  refine ⟨fun r hr => ?_, fun _ => by rw [hc]; have := h0 hp; omega, by rw [matOfE_len]; exact hn, fun r hr z hz' => ?_⟩
  ·obtain ⟨i, _, rfl⟩ := List.mem_map.1 hr
   rw [hc, rowOfE_len]
  ·obtain ⟨i, hi, rfl⟩ := List.mem_map.1 hr
   obtain ⟨j, hj, rfl⟩ := List.mem_map.1 hz'
   exact hE i j (List.mem_range.1 hi) (List.mem_range.1 hj)
def dotFrom (f g : Nat -> Int) : Nat -> Nat -> Int -> Int
 | x, 0, s => s
 | x, m + 1, s => dotFrom f g (x + 1) m (s + f x * g x)
def errFrom (f g : Nat -> Int) : Nat -> Nat -> Int -> Int
 | x, 0, s => 0
 | x, m + 1, s => if (f x * g x).natAbs < 2 ^ 4096 then (if (s + f x * g x).natAbs < 2 ^ 4096 then errFrom f g (x + 1) m (s + f x * g x) else 3) else 3
theorem errFrom_step {g : Nat -> Int} {x : Nat} {s : Int} (h : errFrom f g x (m + 1) s = 0) : (f x * g x).natAbs < 2 ^ 4096 /\ (s + f x * g x).natAbs < 2 ^ 4096 /\ errFrom f g (x + 1) m (s + f x * g x) = 0 := by
 unfold errFrom at h
 split at h
 ·split at h
  ·exact ⟨by assumption, by assumption, h⟩
  ·cases h
 ·cases h
theorem dotFrom_lt {g : Nat -> Int} (m : Nat) : ∀ {x : Nat} {s : Int}, s.natAbs < 2 ^ 4096 -> errFrom f g x m s = 0 -> (dotFrom f g x m s).natAbs < 2 ^ 4096 := by
 induction m with
 | zero => intro x s hs _; exact hs
 | succ m ih =>
  intro x s hs h
  obtain ⟨_, h2, h3⟩ := errFrom_step h
  exact ih h2 h3
def sumTo (F : Nat -> Int) : Nat -> Int
 | 0 => 0
 | k + 1 => sumTo F k + F k
theorem dotFrom_sum (f g : Nat -> Int) : ∀ (m x : Nat), dotFrom f g x m (sumTo (fun y => f y * g y) x) = sumTo (fun y => f y * g y) (x + m)
 | 0, x => rfl
 | m + 1, x => by
  simp only [dotFrom]
  rw [show sumTo (fun y => f y * g y) x + f x * g x = sumTo (fun y => f y * g y) (x + 1) from rfl, dotFrom_sum f g m (x + 1), show x + 1 + m = x + (m + 1) by omega]
theorem dot_sum (f g : Nat -> Int) (m : Nat) : dotFrom f g 0 m 0 = sumTo (fun y => f y * g y) m := by
 have := dotFrom_sum f g m 0
 rwa [Nat.zero_add] at this
def dotE (A B : List (List Int)) (i j : Nat) : Int := dotFrom (ent A i) (fun x => ent B x j) 0 (colsOf A) 0
def dotErr (A B : List (List Int)) (i j : Nat) : Int := errFrom (ent A i) (fun x => ent B x j) 0 (colsOf A) 0
def mulM (A B : List (List Int)) : List (List Int) := matOfE (dotE A B) A.length (colsOf B)
def mulE (A B : List (List Int)) : Int := if colsOf A = B.length then stOut (dotErr A B) (colsOf B) 0 A.length 0 else 5
def trM (A : List (List Int)) : List (List Int) := matOfE (fun i j => ent A j i) (colsOf A) A.length
theorem stIn_all : ∀ {m j : Nat}, stIn err i j m 0 = 0 -> ∀ x, j <= x -> x < j + m -> err i x = 0
 | 0, j, h, x, h1, h2 => by omega
 | m + 1, j, h, x, h1, h2 => by
  simp only [stIn, if_pos] at h
  have h0 := stIn_zero h
  rw [h0] at h
  by_cases hx : x = j
  ·rw [hx]; exact h0
  ·exact stIn_all h x (by omega) (by omega)
theorem stOut_zero (h : stOut err cols i m st = 0) : st = 0 := Decidable.byContradiction fun hn => hn (by rw [stOut_ne hn] at h; exact h)
theorem stOut_all : ∀ {m i : Nat}, stOut err cols i m 0 = 0 -> ∀ y x, i <= y -> y < i + m -> x < cols -> err y x = 0
 | 0, i, h, y, x, h1, h2, h3 => by omega
 | m + 1, i, h, y, x, h1, h2, h3 => by
  simp only [stOut] at h
  have h0 := stOut_zero h
  rw [h0] at h
  by_cases hy : y = i
  ·subst hy; exact stIn_all h0 x (by omega) (by omega)
  ·exact stOut_all h y x (by omega) (by omega) h3
theorem mulM_good (ha : Good A) (hb : Good B) (h : mulE A B = 0) : Good (mulM A B) := by
 unfold mulE at h
 split at h
 ·rename_i hs
  refine Good.ofE ha.rows hb.c16 (fun hp => ?_) fun i j hi hj => ?_
  ·have hA : A ≠ [] := fun e => by rw [e] at hp; simp at hp
   have := (ha.cols hA).1
   have hB : B ≠ [] := fun e => by rw [e] at hs; simp at hs; omega
   exact (hb.cols hB).1
  ·exact dotFrom_lt _ (Nat.two_pow_pos 4096) (stOut_all h i j (by omega) (by omega) hj)
 ·cases h
theorem trM_good (ha : Good A) : Good (trM A) := by
 refine Good.ofE ha.c16 ha.rows (fun hp => ?_) fun i j hi hj => ?_
 ·have hA : A ≠ [] := fun e => by rw [e] at hp; simp [colsOf] at hp
  exact List.length_pos_iff.2 hA
 ·obtain ⟨r, _, _, h⟩ := ha.at hj hi
  exact h
end Go.Sh.Of
namespace Go.Sh.Of
open Go
variable {H H' H0 Hi : Heap}
variable {v w l row t x p : SV}
variable {zs : List Int}
variable {i lo r n cols j lo' g q m k : Nat}
variable {z st : Int}
variable {rows A B : List (List Int)}
variable {e cs caps ws : List SV}
variable {els : List (List SV)}
variable {ns : List Nat}
variable {E err : Nat -> Nat -> Int}
variable {s : List UInt8}
variable {f : Nat -> Int}
variable {T : List (List (List UInt8))}
theorem Arr.fq (h : Arr H v cs) (b : Box q H st) (f : FrQ q H.size H H') (hc : ∀ c ∈ cs, ∀ n, c ≠ .int .i64 n) : Arr H' v cs :=
 Arr.keepG h (X := fun r => r = q) (fun c0 hc0 r row e hg c hcr => by
  subst e
  obtain ⟨ver, hv⟩ := b
  rw [hv] at hg
  cases hg
  rw [List.mem_singleton.1 hcr]
  exact fun e => hc c0 hc0 _ e.symm) fun r hr hlt => f.2 r hlt hr
theorem Holds.fq (h : Holds H p v) (b : Box q H st) (f : FrQ q H.size H H') (hc : ∀ n, v ≠ .int .i64 n) : Holds H' p v := by
 obtain ⟨r, row, h1, h2, h3, h4⟩ := h
 refine ⟨r, row, h1, ?_, h3, h4⟩
 rw [f.2 r (Heap.get_lt h2) fun e => ?_]
 ·exact h2
 ·subst e
  obtain ⟨ver, hv⟩ := b
  rw [hv] at h2
  cases h2
  simp at h4
  exact hc _ h4.symm
theorem IsTexts.fq (h : IsTexts H v T) (b : Box q H st) (f : FrQ q H.size H H') : IsTexts H' v T := by
 obtain ⟨ws, h1, h2, h3⟩ := h
 refine ⟨ws, Arr.fq h1 b f fun c hc n e => ?_, h2, fun i w cs hw hcs => Arr.fq (h3 i w cs hw hcs) b f fun c hc n e => ?_⟩
 ·obtain ⟨i, hi⟩ := List.getElem?_of_mem hc
  obtain ⟨cs, hcs⟩ : ∃ cs, (T.map strs)[i]? = some cs := ⟨_, List.getElem?_eq_getElem (by have := (List.getElem?_eq_some_iff.1 hi).1; omega)⟩
  exact isSlice_not_int (Arr.isSlice (h3 i c cs hi hcs)) _ _ e
 ·rw [List.getElem?_map, Option.map_eq_some_iff] at hcs
  obtain ⟨l, _, rfl⟩ := hcs
  obtain ⟨s, _, rfl⟩ := List.mem_map.1 hc
  cases e
theorem fitZ_yes (h : z.natAbs < 2 ^ 4096) : fitZ z = z := by unfold fitZ; rw [if_pos h]
theorem z_boxM (w : SV) (H : Heap) : ∃ p H', (∀ k, slow.box (.agg [w]) H k = k p H') /\ Frame H H' /\ Holds H' p w /\ p.good = true :=
 ⟨.ptr (H.size, 0), H.push (newRow 1 [w]), fun k => rfl, Fr.push (Nat.le_refl _) _, ⟨H.size, _, rfl, Heap.get_push_self _ _, by simp [newRow], rfl⟩, rfl⟩
theorem Holds.loadA (h : Holds H p x) (k : K1) : slow.load 1 true p H k = k (.agg [x]) := by
 obtain ⟨r, row, rfl, h2, h3, h4⟩ := h
 show (opR (.load 1 true) [.ptr (r, 0)] H).bind k = _
 simp only [opR, Heap.read, h2, beq_ne h3, cond_false, cut_one h4, shaped, Option.bind_some]
theorem Holds.fld (h : Holds H p x) (k : K1) : slow.fld 0 p k = k p := by
 obtain ⟨r, row, rfl, h2, h3, h4⟩ := h
 rfl
theorem z_mkfn {f : Nat} {xs : List SV} (hx : xs.all SV.good = true) (k : K1) : slow.mkfn f 0 xs k = k (.fn f [] xs) := by
 show (opP (.mkfn f 0) xs).bind k = _
 simp [opP, hx]
theorem Box.alloc (H : Heap) (st st' : Int) : ∃ H' H'', (∀ k, slow.alloc [.int .i64 st] H k = k (.ptr (H.size, 0)) H') /\ (∀ k, slow.store 1 (.ptr (H.size, 0)) (.int .i64 st') H' k = k H'') /\ Frame H H'' /\ Box H.size H'' st' /\ H''.size = H.size + 1 := by
 have b : Box H.size (H.push (newRow 1 [.int .i64 st])) st := ⟨0, Heap.get_push_self _ _⟩
 obtain ⟨H2, h1, h2, h3, h4⟩ := b.store st'
 have hs : (H.push (newRow 1 [.int .i64 st])).size = H.size + 1 := by simp [Heap.size_push]
 exact ⟨_, H2, fun k => rfl, h1, ⟨by omega, fun r hr => by rw [h4 r (by omega), Heap.get_push_ne _ _ (by omega)]⟩, h2, by omega⟩
def entT (T : List (List (List UInt8))) (i j : Nat) : List UInt8 := (((T[i]?).getD [])[j]?).getD []
def colsT (T : List (List (List UInt8))) : Nat := ((T[0]?).getD []).length
theorem entT_get {r : List (List UInt8)} (hr : T[i]? = some r) (hs : r[j]? = some s) : entT T i j = s := by simp [entT, hr, hs]
def TextsOk (K : Nat) (T : List (List (List UInt8))) : Prop := ∀ r ∈ T, ∀ s ∈ r, s.length < 9223372036854775808 /\ s.length < K
def txtErr (T : List (List (List UInt8))) (i j : Nat) : Int := errS (entT T i j)
def txtNum (T : List (List (List UInt8))) (i j : Nat) : Int := numS (entT T i j)
def parseE (T : List (List (List UInt8))) : Int := if shapedB (T.map List.length) then stOut (txtErr T) (colsT T) 0 T.length 0 else 5
def parseM (T : List (List (List UInt8))) : List (List Int) := if parseE T = 0 then matOfE (txtNum T) T.length (colsT T) else []
theorem shapedT (h : shapedB (T.map List.length) = true) : T = [] \/ (T.length <= 16 /\ ∀ r ∈ T, 1 <= r.length /\ r.length <= 16 /\ r.length = colsT T) := by
 unfold shapedB at h
 rw [List.all_eq_true] at h
 cases T with
 | nil => left; rfl
 | cons r0 T =>
  right
  have hc : colsT (r0 :: T) = r0.length := rfl
  simp only [List.length_map, List.map_cons, List.getElem?_cons_zero, Bool.and_eq_true, decide_eq_true_eq, Option.some.injEq] at h
  refine ⟨by simpa using (h r0.length (by simp)).1, fun r hr => ?_⟩
  have := h r.length (by
   rcases List.mem_cons.1 hr with rfl | hr
   ·simp
   ·exact List.mem_cons_of_mem _ (List.mem_map_of_mem hr))
  rw [hc]
  exact ⟨this.2.1, this.2.2.1, this.2.2.2⟩
theorem parseM_good (T : List (List (List UInt8))) : Good (parseM T) := by
 unfold parseM
 split
 ·rename_i h
  unfold parseE at h
  split at h
  ·rename_i hs
   rcases shapedT hs with rfl | ⟨h1, h2⟩
   ·exact Good.nil
   ·have hc : 0 < T.length -> 0 < colsT T /\ colsT T <= 16 := fun hp => by
     have h0 : T[0]? = some T[0] := List.getElem?_eq_getElem hp
     have := h2 T[0] (List.getElem_mem hp)
     omega
    by_cases hp : 0 < T.length
    ·exact Good.ofE h1 (hc hp).2 (fun _ => (hc hp).1) fun i j _ _ => numS_lt _
    ·have : T = [] := List.eq_nil_of_length_eq_zero (by omega)
     subst this
     exact Good.nil
  ·cases h
 ·exact Good.nil
theorem mparse_entry (K : Nat) (hK : 1000000 < K) (d : Nat) {st0 : Int} (hb : Box q H0 st0) (hp : Holds H0 p v) (hv : IsTexts H0 v T) (hl : TextsOk K T) (hcol : ∀ r ∈ T, r.length = colsT T) :
  EntryQ (runQ wk tab slow K (d + 6)) 23 [p, .ptr (q, 0)] H0 q T.length (colsT T) (txtNum T) (txtErr T) := fun i j H st hi hj hf hbH => by
 obtain ⟨r, hr⟩ : ∃ r, T[i]? = some r := ⟨_, List.getElem?_eq_getElem hi⟩
 have hrl := hcol r (List.mem_of_getElem? hr)
 obtain ⟨s, hs⟩ : ∃ s, r[j]? = some s := ⟨_, List.getElem?_eq_getElem (by omega)⟩
 have hnv : ∀ n, v ≠ .int .i64 n := fun n => by
  obtain ⟨ws, h1, _⟩ := hv
  exact isSlice_not_int (Arr.isSlice h1) _ n
 have hpH := Holds.fq hp hb hf hnv
 have hvH : IsTexts H v T := IsTexts.fq hv hb hf
 obtain ⟨w, hw, ha⟩ := hvH.load (i := i) (cs := strs r) (by simp [hr])
 obtain ⟨z, H1, h1, f1, hz⟩ := zparse_ok K hK d H (s := s) (hl r (List.mem_of_getElem? hr) s (List.mem_of_getElem? hs)).1 (hl r (List.mem_of_getElem? hr) s (List.mem_of_getElem? hs)).2
 have e1 : txtErr T i j = errS s := by unfold txtErr; rw [entT_get hr hs]
 have e2 : txtNum T i j = numS s := by unfold txtNum; rw [entT_get hr hs]
 obtain ⟨sl, rfl, h2, h3⟩ := hz
 have hz : IsInt H1 (.agg [.bool (decide (numS s < 0)), sl]) (numS s) := ⟨sl, rfl, h2, h3⟩
 have hb1 := hbH.fr f1 hbH.lt
 rw [e1, e2]
 show ∃ r H', f23 slow K (runQ wk tab slow K (d + 5)) (i64 i) (i64 j) p (.ptr (q, 0)) H = _ /\ _
 simp only [f23, hpH.load, hw, ha.load (strs_get hs), h1, z_call, z_ext0, z_ext1, z_bst2, hb1.holds.load, z_eql]
 by_cases h0 : st = 0
 ·subst h0
  obtain ⟨H2, s2, b2, sz2, r2⟩ := hb1.store (errS s)
  refine ⟨.agg [.bool (decide (numS s < 0)), sl], H2, ?_, ⟨by rw [sz2]; exact f1.size, fun r hr hn => by rw [r2 r hn, f1.rows r hr]⟩, by rw [if_pos rfl]; exact b2, numS s, hz.fq hb1 ⟨by omega, fun r hr hn => r2 r hn⟩, fun _ _ => rfl⟩
  simp only [beq_self_eq_true, z_cond, cond_true, s2, f23_j1, z_lload2, z_bst2, z_resc2]
 ·have hne : (st == 0) = false := beq_eq_false_iff_ne.2 h0
  refine ⟨.agg [.bool (decide (numS s < 0)), sl], H1, ?_, FrQ.of_fr f1, by rw [if_neg h0]; exact hb1, numS s, hz, fun h => absurd h h0⟩
  simp only [hne, z_cond, cond_false, f23_j1, z_lload2, z_bst2, z_resc2]
theorem mparse_ok (K : Nat) (hK : 1000000 < K) (d : Nat) (H : Heap) (hv : IsTexts H v T) (hl : TextsOk K T) (hrl : T.length < 100000) :
  ∃ r H', runQ wk tab slow K (d + 8) 6 [v] H = some (.tuple [r, .int .i64 (parseE T)], H') /\ Frame H H' /\ IsMatF H.size H' r (parseM T) := by
 show ∃ r H', f6 slow K (runQ wk tab slow K (d + 7)) v H = _ /\ _
 obtain ⟨p, H1, hb, f1, hp, hpg⟩ := z_boxH hv.flat H
 have hv1 := hv.fr f1
 obtain ⟨ws, hws, hwl, hwr⟩ := hv1
 have hwl' : ws.length = T.length := by simpa using hwl
 have hwr' : ∀ (i : Nat) w r, ws[i]? = some w -> T[i]? = some r -> isSlice w /\ slen w = r.length := fun i w r hw hr => by have := Arr.slen (hwr i w (strs r) hw (by simp [hr])); simpa using this
 have hsl : ∀ w ∈ ws, isSlice w := fun w hw => by
  obtain ⟨i, hi⟩ := List.getElem?_of_mem hw
  obtain ⟨r, hr⟩ : ∃ r, T[i]? = some r := ⟨_, List.getElem?_eq_getElem (by have := (List.getElem?_eq_some_iff.1 hi).1; omega)⟩
  exact (hwr' i w r hi hr).1
 obtain ⟨u, H2, h2, f2, a2⟩ := lengthsS_ok K (d + 6) H1 hws hsl (by omega) (by omega)
 have hmap : ws.map slen = T.map List.length := slices_map (by simp [hwl']) fun i w n hw hn => by
  rw [List.getElem?_map, Option.map_eq_some_iff] at hn
  obtain ⟨r, hr, rfl⟩ := hn
  exact (hwr' i w r hw hr).2
 rw [hmap] at a2
 have h3 := shaped_ok K (d + 6) H2 a2 (by simp; omega) (by omega)
 have e12 := Frame.trans f1 f2
 have hp2 := hp.fr f2
 have hws2 := hws.fr f2
 have hlen : ∀ k, slow.len v k = k (i64 T.length) := fun k => by rw [hws2.len, hwl']
 simp only [f6, hb, hp.load, h2, z_call, h3, z_not, z_cond]
 cases hsh : shapedB (T.map List.length) with
 | false =>
  have e1 : parseE T = 5 := by unfold parseE; rw [hsh]; rfl
  have e2 : parseM T = [] := by unfold parseM; rw [e1]; rfl
  rw [e1, e2]
  simp only [Bool.not_false, cond_true, z_build0, z_bst1, z_resc1]
  exact ⟨_, H2, rfl, e12, IsMatF.nil _ H2⟩
 | true =>
  have e1 : parseE T = stOut (txtErr T) (colsT T) 0 T.length 0 := by unfold parseE; rw [hsh]; rfl
  simp only [Bool.not_true, cond_false, hp2.load, hlen, z_eql, z_cond]
  by_cases h0 : T = []
  ·subst h0
   have hz : (((([] : List (List (List UInt8))).length : Nat) : Int) == 0) = true := rfl
   simp only [hz, cond_true, z_build0, z_bst1, z_resc1]
   exact ⟨_, H2, rfl, e12, IsMatF.nil _ H2⟩
  ·have hpos := List.length_pos_iff.2 h0
   have hz : ((T.length : Int) == 0) = false := beq_eq_false_iff_ne.2 (by omega)
   obtain ⟨g1, g2⟩ := (shapedT hsh).resolve_left h0
   have hcol : ∀ r ∈ T, r.length = colsT T := fun r hr => (g2 r hr).2.2
   obtain ⟨r0, hr0⟩ : ∃ r, T[0]? = some r := ⟨_, List.getElem?_eq_getElem hpos⟩
   obtain ⟨w0, hw0⟩ : ∃ w, ws[0]? = some w := ⟨_, List.getElem?_eq_getElem (by omega)⟩
   have hc0 : colsT T = r0.length := by simp [colsT, hr0]
   have hl0 : ∀ k, slow.len w0 k = k (i64 (colsT T)) := fun k => by
    rw [len_slen (hwr' 0 w0 r0 hw0 hr0).1, (hwr' 0 w0 r0 hw0 hr0).2, hc0]
   obtain ⟨H3, H4, a3, s3, f3, b3, sz3⟩ := Box.alloc H2 0 0
   have hp3 := hp2.fr f3
   have hws3 := hws2.fr f3
   have hlen3 : ∀ k, slow.len v k = k (i64 T.length) := hlen
   have hld : ∀ k, slow.idx 1 v (.int .i64 0) (fun p => slow.load 1 false p H4 k) = k w0 := fun k => hws3.load (i := 0) hw0 .i64 k
   have hc16 : colsT T <= 16 := by rw [hc0]; exact (g2 r0 (List.mem_of_getElem? hr0)).2.1
   obtain ⟨q, H5, h4, f5, b5, ⟨mw, hmw⟩, hm⟩ := made_okQ K (by omega) (d + 6) (rows := T.length) (cols := colsT T) (by omega) (by omega) b3 (mparse_entry K hK d b3 hp3 (hv.fr (Frame.trans e12 f3)) hl hcol)
   subst hmw
   have e45 : Frame H2 H5 := ⟨Nat.le_trans f3.size f5.1, fun r hr => by rw [f5.2 r (by omega) (by omega), f3.rows r hr]⟩
   have fin := Frame.trans e12 e45
   have hgood : (SV.ptr (H2.size, 0)).good = true := rfl
   have hall : [p, SV.ptr (H2.size, 0)].all SV.good = true := by simp [hpg, hgood]
   simp only [hz, cond_false, a3, s3, hp3.load, hlen3, hld, hl0, z_mkfn hall, h4, z_call, z_bst1, b5.holds.load, z_neq]
   rw [<- e1]
   by_cases hst : parseE T = 0
   ·have e2 : parseM T = matOfE (txtNum T) T.length (colsT T) := if_pos hst
    have hm' := hm (by rw [<- e1]; exact hst)
    rw [hst, e2]
    simp only [bne_self_eq_false, z_cond, cond_false, z_lload1, z_bst1, z_resc1]
    exact ⟨_, H5, rfl, fin, hm'.mono (by have := e12.size; have := f3.size; omega)⟩
   ·have e2 : parseM T = [] := if_neg hst
    have hne : (parseE T != 0) = true := bne_iff_ne.2 hst
    rw [e2]
    simp only [hne, z_cond, cond_true, z_build0, z_bst1, z_resc1, z_rest_int]
    exact ⟨_, H5, rfl, fin, IsMatF.nil _ H5⟩
def EntryE (C : CallC) (g : Nat) (caps : List SV) (H0 : Heap) (rows cols : Nat) (E err : Nat -> Nat -> Int) : Prop :=
 ∀ i j H, i < rows -> j < cols -> Frame H0 H -> ∃ r H', C g ([] ++ ([i64 i, i64 j] ++ caps)) H = some (.tuple [r, .int .i64 (err i j)], H') /\ Frame H H' /\ ∃ z, IsInt H' r z /\ (err i j = 0 -> z = E i j)
theorem whole_ok (K : Nat) (hK : 100000 < K) (d : Nat) (H : Heap) {rows cols : Nat} (hcols : cols < 100000) (hrows : rows < 100000) (hE : EntryE (runQ wk tab slow K d) g caps H rows cols E err) :
  ∃ r H', runQ wk tab slow K (d + 3) 59 [i64 rows, i64 cols, .fn g [] caps] H = some (.tuple [r, .int .i64 (stOut err cols 0 rows 0)], H') /\ Frame H H' /\ IsMatF H.size H' r (if stOut err cols 0 rows 0 = 0 then matOfE E rows cols else []) := by
 show ∃ r H', f59 slow K (runQ wk tab slow K (d + 2)) (i64 rows) (i64 cols) (.fn g [] caps) H = _ /\ _
 obtain ⟨p, H1, hb, f1, hp, hpg⟩ := z_boxH (x := .fn g [] caps) rfl H
 obtain ⟨H2, H3, a3, s3, f3, b3, sz3⟩ := Box.alloc H1 0 0
 have hp3 := hp.fr f3
 have e13 := Frame.trans f1 f3
 have hent : EntryQ (runQ wk tab slow K (d + 1)) 87 [.ptr (H1.size, 0), p] H3 H1.size rows cols E err := fun i j H' st hi hj hf hbH => by
  show ∃ r H'', f87 slow K (runQ wk tab slow K d) (i64 i) (i64 j) (.ptr (H1.size, 0)) p H' = _ /\ _
  have hpH := Holds.fq hp3 b3 hf (fun n e => by cases e)
  simp only [f87, hbH.holds.load, z_neq]
  by_cases h0 : st = 0
  ·subst h0
   obtain ⟨r, H4, h4, f4, z, hz, hze⟩ := hE i j H' hi hj ⟨Nat.le_trans e13.size hf.1, fun r hr => by
    rw [hf.2 r (by have := e13.size; omega) (by have := f1.size; omega), e13.rows r hr]⟩
   obtain ⟨sl, rfl, hsl, hsf⟩ := hz
   have hz : IsInt H4 (.agg [.bool (decide (z < 0)), sl]) z := ⟨sl, rfl, hsl, hsf⟩
   have hb4 := hbH.fr f4 hbH.lt
   obtain ⟨H5, s5, b5, sz5, r5⟩ := hb4.store (err i j)
   refine ⟨.agg [.bool (decide (z < 0)), sl], H5, ?_, ⟨by rw [sz5]; exact f4.size, fun r hr hn => by rw [r5 r hn, f4.rows r hr]⟩, by rw [if_pos rfl]; exact b5, z, hz.fq hb4 ⟨by omega, fun r hr hn => r5 r hn⟩, fun _ h => hze h⟩
   simp only [bne_self_eq_false, z_cond, cond_false, hpH.load, z_callv, h4, z_call, z_ext0, z_ext1, z_bst2, s5, z_lload2, z_resc2]
  ·have hne : (st != 0) = true := bne_iff_ne.2 h0
   refine ⟨.agg [.bool false, .slice nilSl], H', ?_, FrQ.refl _ _ _, by rw [if_neg h0]; exact hbH, 0, IsInt.zero H', fun h => absurd h h0⟩
   simp only [hne, z_cond, cond_true, z_build0, z_bst2, z_resc2]
 obtain ⟨q, H5, h4, f5, b5, ⟨mw, hmw⟩, hm⟩ := made_okQ K hK (d + 1) (rows := rows) (cols := cols) hcols hrows b3 hent
 subst hmw
 have e45 : Frame H1 H5 := ⟨Nat.le_trans f3.size f5.1, fun r hr => by rw [f5.2 r (by omega) (by omega), f3.rows r hr]⟩
 have fin := Frame.trans f1 e45
 have hgood : (SV.ptr (H1.size, 0)).good = true := rfl
 have hall : [SV.ptr (H1.size, 0), p].all SV.good = true := by simp [hpg, hgood]
 simp only [f59, hb, a3, s3, z_mkfn hall, h4, z_call, z_bst1, b5.holds.load, z_neq]
 by_cases hst : stOut err cols 0 rows 0 = 0
 ·have hm' := hm hst
  rw [if_pos hst, hst]
  simp only [bne_self_eq_false, z_cond, cond_false, z_lload1, z_bst1, z_resc1]
  exact ⟨_, H5, rfl, fin, hm'.mono e13.size⟩
 ·have hne : (stOut err cols 0 rows 0 != 0) = true := bne_iff_ne.2 hst
  rw [if_neg hst]
  simp only [hne, z_cond, cond_true, z_build0, z_bst1, z_resc1, z_rest_int]
  exact ⟨_, H5, rfl, fin, IsMatF.nil _ H5⟩
theorem msize_ok (K : Nat) (d : Nat) (H : Heap) (hv : IsMat H v A) : runQ wk tab slow K (d + 1) 27 [v] H = some (.tuple [i64 A.length, i64 (colsOf A)], H) := by
 obtain ⟨w, rfl, hr⟩ := hv
 show f27 slow K (runQ wk tab slow K d) (.agg [w]) H = _
 simp only [f27, z_bbox, z_lfld, z_lld0, hr.len, z_eql, z_cond]
 by_cases h0 : A = []
 ·subst h0
  rfl
 ·have hz : ((A.length : Int) == 0) = false := beq_eq_false_iff_ne.2 (by have := List.length_pos_iff.2 h0; omega)
  obtain ⟨r0, hr0⟩ : ∃ r, A[0]? = some r := ⟨_, List.getElem?_eq_getElem (List.length_pos_iff.2 h0)⟩
  obtain ⟨u, hu, hz0⟩ := hr.load (i := 0) hr0
  have hu' : ∀ k, slow.idx 1 w (.int .i64 0) (fun p => slow.load 1 false p H k) = k u := fun k => hu .i64 k
  have e : colsOf A = r0.length := by simp [colsOf, hr0]
  simp only [hz, cond_false, hu', hz0.len, z_rest_int, e]
theorem IsRows.entry (h : IsRows H w A) (hg : Good A) (hi : i < A.length) (hj : j < colsOf A) : ∃ u x y, (∀ k, slow.idx 1 w (i64 i) (fun p => slow.load 1 false p H k) = k u) /\ (∀ k, slow.idx 2 u (i64 j) (fun p => slow.load 2 true p H k) = k (.agg [x, y])) /\ IsInt H (.agg [x, y]) (ent A i j) := by
 obtain ⟨r, h1, h2, _⟩ := hg.at hi hj
 obtain ⟨u, hu, hz⟩ := h.load h1
 obtain ⟨x, y, hxy, hint⟩ := hz.load h2
 exact ⟨u, x, y, fun k => hu .i64 k, fun k => hxy .i64 k, hint⟩
theorem mtrans_ok (K : Nat) (hK : 100000 < K) (d : Nat) (H : Heap) (hv : IsMat H v A) (hg : Good A) : ∃ r H', runQ wk tab slow K (d + 3) 31 [v] H = some (r, H') /\ Frame H H' /\ IsMatF H.size H' r (trM A) := by
 have hsz := fun H' (f : Frame H H') => msize_ok K (d + 1) H' (hv.fr f)
 obtain ⟨w, rfl, hr⟩ := hv
 show ∃ r H', f31 slow K (runQ wk tab slow K (d + 2)) (.agg [w]) H = _ /\ _
 obtain ⟨p, H1, hb, f1, hp, hpg⟩ := z_boxM w H
 have hr1 := hr.fr f1
 have hrows := hg.rows
 have hcols := hg.c16
 have hent : EntryOk (runQ wk tab slow K (d + 1)) 63 [p] H1 (colsOf A) A.length (fun i j => ent A j i) := fun i j H' hi hj hf => by
  obtain ⟨u, x, y, h1, h2, h3⟩ := (hr1.fr hf).entry hg hj hi
  show ∃ r H'', f63 slow K (runQ wk tab slow K d) (i64 i) (i64 j) p H' = _ /\ _
  refine ⟨.agg [x, y], H', ?_, Fr.refl _ _, h3⟩
  simp only [f63, Holds.fld (hp.fr hf), (hp.fr hf).load, h1, h2, z_bst2, z_resc2]
 obtain ⟨r, H2, h2, f2, hm⟩ := made_ok K hK (d + 1) (H0 := H1) (rows := colsOf A) (cols := A.length) (by omega) (by omega) hent
 obtain ⟨mw, rfl, hmr⟩ := hm
 refine ⟨_, H2, ?_, Frame.trans f1 f2, IsMatF.mono ⟨mw, rfl, hmr⟩ f1.size⟩
 simp only [f31, hb, Holds.loadA hp, hsz H1 f1, z_call, z_ext0, z_ext1, z_mkfn0 _ hpg, h2, z_bst1, z_resc1]
theorem mmul_loop (K : Nat) (hK : 200000 < K) (d : Nat) {pa pb wa wb : SV} (hpa : Holds H0 pa wa) (hpb : Holds H0 pb wb) (hwa : IsRows H0 wa A) (hwb : IsRows H0 wb B) (ha : Good A) (hb : Good B) (hab : colsOf A = B.length) {i j : Nat} (hi : i < A.length) (hj : j < colsOf B) (z8 : List SV) (hz8 : ∃ a b, z8 = [a, b]) : ∀ (m x fuel : Nat) (H : Heap) (s : Int) (b sl : SV), x + m = colsOf A -> m < fuel -> Frame H0 H -> IsInt H (.agg [b, sl]) s -> s.natAbs < 2 ^ 4096 ->
  ∃ r H', slow.loop8 (f60_l1 slow K (runQ wk tab slow K (d + 5))) fuel (i64 i) (i64 j) pa pb (.box z8) (.box [b, sl]) (i64 (colsOf A)) (i64 x) H = some (.tuple [r, .int .i64 (errFrom (ent A i) (fun y => ent B y j) x m s)], H') /\ Frame H H' /\ ∃ z, IsInt H' r z /\ (errFrom (ent A i) (fun y => ent B y j) x m s = 0 -> z = dotFrom (ent A i) (fun y => ent B y j) x m s)
 | 0, x, fuel, H, s, b, sl, hxm, hf, hfr, hs, hlt => by
  obtain ⟨fuel, rfl⟩ := suc hf
  obtain ⟨z0, z1, rfl⟩ := hz8
  have hx : ¬ x < colsOf A := by omega
  refine ⟨.agg [b, sl], H, ?_, Fr.refl _ _, s, hs, fun _ => rfl⟩
  rw [z_loop8]
  simp only [f60_l1, n_lss, decide_eq_false hx, z_cond, cond_false, z_lload2, z_bst2, z_resc2]
  rfl
 | m + 1, x, fuel, H, s, b, sl, hxm, hf, hfr, hs, hlt => by
  obtain ⟨fuel, rfl⟩ := suc hf
  obtain ⟨z0, z1, rfl⟩ := hz8
  have hx : x < colsOf A := by omega
  have hc := ha.c16
  obtain ⟨u, x1, y1, g1, g2, g3⟩ := (hwa.fr hfr).entry ha hi hx
  obtain ⟨u', x1', y1', g1', g2', g3'⟩ := (hwb.fr hfr).entry hb (i := x) (j := j) (by omega) hj
  obtain ⟨_, _, _, l1⟩ := ha.at hi hx
  obtain ⟨_, _, _, l2⟩ := hb.at (i := x) (j := j) (by omega) hj
  obtain ⟨p, H1, h1, f1, hp⟩ := zmul_ok K hK d H g3 g3' l1 l2
  obtain ⟨slp, rfl, hpl, hpf⟩ := hp
  have hp : IsInt H1 (.agg [.bool (decide (fitZ (ent A i x * ent B x j) < 0)), slp]) (fitZ (ent A i x * ent B x j)) := ⟨slp, rfl, hpl, hpf⟩
  have hfit : (fitZ (ent A i x * ent B x j)).natAbs < 2 ^ 4096 := by
   unfold fitZ
   split
   ·assumption
   ·exact Nat.two_pow_pos 4096
  rw [z_loop8]
  simp only [f60_l1, n_lss, decide_eq_true hx, z_cond, cond_true, Holds.fld (hpa.fr hfr), (hpa.fr hfr).load, g1, g2, Holds.fld (hpb.fr hfr), (hpb.fr hfr).load, g1', g2', h1, z_call, z_ext0, z_ext1, z_bst2, z_neq]
  by_cases hA : (ent A i x * ent B x j).natAbs < 2 ^ 4096
  ·have e1 : errZ (ent A i x * ent B x j) = 0 := if_pos hA
   have e2 : fitZ (ent A i x * ent B x j) = ent A i x * ent B x j := if_pos hA
   rw [e1]
   rw [e2] at hp hfit
   obtain ⟨t, H2, h2, f2, ht⟩ := zadd_ok K (by omega) d H1 (hs.fr f1) hp hlt hfit
   obtain ⟨slt, rfl, htl, htf⟩ := ht
   rw [e2]
   simp only [bne_self_eq_false, cond_false, z_lload2, h2, z_call, z_ext0, z_ext1, z_bst2, z_neq, z_cond]
   by_cases hS : (s + ent A i x * ent B x j).natAbs < 2 ^ 4096
   ·have e3 : errZ (s + ent A i x * ent B x j) = 0 := if_pos hS
    have e4 : fitZ (s + ent A i x * ent B x j) = s + ent A i x * ent B x j := if_pos hS
    have e5 : errFrom (ent A i) (fun y => ent B y j) x (m + 1) s = errFrom (ent A i) (fun y => ent B y j) (x + 1) m (s + ent A i x * ent B x j) := by
     conv => lhs; unfold errFrom
     rw [if_pos hA, if_pos hS]
    have ht : IsInt H2 (.agg [.bool (decide (fitZ (s + ent A i x * ent B x j) < 0)), slt]) (fitZ (s + ent A i x * ent B x j)) := ⟨slt, rfl, htl, htf⟩
    rw [e4] at ht
    obtain ⟨r, H3, h3, f3, hr⟩ := mmul_loop K hK d hpa hpb hwa hwb ha hb hab hi hj [z0, z1] ⟨_, _, rfl⟩ m (x + 1) fuel H2 (s + ent A i x * ent B x j) _ slt (by omega) (by omega) (Frame.trans hfr (Frame.trans f1 f2)) ht hS
    refine ⟨r, H3, ?_, Frame.trans (Frame.trans f1 f2) f3, ?_⟩
    ·rw [e3, e4, e5]
     simp only [bne_self_eq_false, cond_false]
     rw [show (SV.int .i64 1) = i64 1 from rfl, n_addi _ (by omega)]
     exact h3
    ·rw [e5]; exact hr
   ·have e3 : errZ (s + ent A i x * ent B x j) = 3 := if_neg hS
    have e5 : errFrom (ent A i) (fun y => ent B y j) x (m + 1) s = 3 := by
     unfold errFrom
     rw [if_pos hA, if_neg hS]
    rw [e3, e5]
    refine ⟨_, H2, rfl, Frame.trans f1 f2, _, ⟨slt, rfl, htl, htf⟩, fun h => by cases h⟩
  ·have e1 : errZ (ent A i x * ent B x j) = 3 := if_neg hA
   have e5 : errFrom (ent A i) (fun y => ent B y j) x (m + 1) s = 3 := by
    unfold errFrom
    rw [if_neg hA]
   rw [e1, e5]
   exact ⟨.agg [b, sl], H1, rfl, f1, s, hs.fr f1, fun h => by cases h⟩
theorem mmul_ok (K : Nat) (hK : 200000 < K) (d : Nat) (H : Heap) {v' : SV} (hv : IsMat H v A) (hv' : IsMat H v' B) (ha : Good A) (hb : Good B) : ∃ r H', runQ wk tab slow K (d + 10) 30 [v, v'] H = some (.tuple [r, .int .i64 (mulE A B)], H') /\ Frame H H' /\ IsMatF H.size H' r (if mulE A B = 0 then mulM A B else []) := by
 have hsz := fun H' (f : Frame H H') => msize_ok K (d + 8) H' (hv.fr f)
 have hsz' := fun H' (f : Frame H H') => msize_ok K (d + 8) H' (hv'.fr f)
 obtain ⟨w, rfl, hr⟩ := hv
 obtain ⟨w', rfl, hr'⟩ := hv'
 show ∃ r H', f30 slow K (runQ wk tab slow K (d + 9)) (.agg [w]) (.agg [w']) H = _ /\ _
 obtain ⟨p, H1, hb1, f1, hp, hpg⟩ := z_boxM w H
 obtain ⟨p', H2, hb2, f2, hp', hpg'⟩ := z_boxM w' H1
 have e12 := Frame.trans f1 f2
 have hp2 := hp.fr f2
 obtain ⟨H3, H4, a3, s3, f3, b3, sz3⟩ := Box.alloc H2 0 (colsOf A)
 have e14 := Frame.trans e12 f3
 have hp4 := hp2.fr f3
 have hp4' := hp'.fr f3
 have hr4 := hr.fr e14
 have hr4' := hr'.fr e14
 have hrows := ha.rows
 have hcols := ha.c16
 have hcolsB := hb.c16
 have hkb := b3.holds
 simp only [f30, hb1, hb2, Holds.loadA hp2, hsz H2 e12, z_call, z_ext0, z_ext1, a3, s3, Holds.loadA hp4', hsz' H4 e14, hkb.load, n_neq, z_cond]
 by_cases h1 : colsOf A = B.length
 ·have hn1 : ¬ colsOf A ≠ B.length := fun h => h h1
  rw [decide_eq_false hn1, cond_false]
  have e : mulE A B = stOut (dotErr A B) (colsOf B) 0 A.length 0 := if_pos h1
  have hent : EntryE (runQ wk tab slow K (d + 6)) 60 [.ptr (H2.size, 0), p, p'] H4 A.length (colsOf B) (dotE A B) (dotErr A B) := fun i j H' hi hj hf => by
   obtain ⟨r, H5, h5, f5, hr5⟩ := mmul_loop K hK d (hp4.fr hf) (hp4'.fr hf) (hr4.fr hf) (hr4'.fr hf) ha hb h1 hi hj [.bool false, .slice nilSl] ⟨_, _, rfl⟩ (colsOf A) 0 K H' 0 (.bool false) (.slice nilSl) (by omega) (by omega) (Fr.refl _ _) (IsInt.zero H') (Nat.two_pow_pos 4096)
   show ∃ r H'', f60 slow K (runQ wk tab slow K (d + 5)) (i64 i) (i64 j) (.ptr (H2.size, 0)) p p' H' = _ /\ _
   refine ⟨r, H5, ?_, f5, hr5⟩
   simp only [f60, z_build0, z_bst2, (hkb.fr hf).load]
   exact h5
  obtain ⟨r, H6, h6, f6, hm⟩ := whole_ok K (by omega) (d + 6) H4 (rows := A.length) (cols := colsOf B) (by omega) (by omega) hent
  have hall : [SV.ptr (H2.size, 0), p, p'].all SV.good = true := by simp [hpg, hpg']; rfl
  rw [<- e] at h6 hm
  obtain ⟨mw, hmw⟩ : ∃ mw, r = .agg [mw] := by obtain ⟨mw, e, _⟩ := hm; exact ⟨mw, e⟩
  subst hmw
  refine ⟨_, H6, ?_, Frame.trans e14 f6, hm.mono e14.size⟩
  simp only [z_mkfn hall, h6, z_call, z_ext0, z_ext1, z_bst1, z_resc1, z_rest_int]
 ·have e : mulE A B = 5 := if_neg h1
  rw [decide_eq_true h1, cond_true, e]
  simp only [z_build0, z_bst1, z_resc1]
  exact ⟨_, H4, rfl, e14, IsMatF.nil _ H4⟩
end Go.Sh.Of
namespace Go.Sh.Of
open Go Go.Sh
variable {H H' H0 Hi : Heap}
variable {v w l row t x p : SV}
variable {zs : List Int}
variable {i lo r n cols j lo' g q m k : Nat}
variable {z st : Int}
variable {rows A B : List (List Int)}
variable {e cs caps ws : List SV}
variable {els : List (List SV)}
variable {ns : List Nat}
variable {E err : Nat -> Nat -> Int}
variable {s : List UInt8}
variable {f : Nat -> Int}
variable {T : List (List (List UInt8))}
theorem nu64_ok (K : Nat) (d : Nat) (H : Heap) {n : Nat} (hv : IsNat H v n) (hb : (digs n).length < 1000000) :
  runQ wk tab slow K (d + 1) 92 [v] H = some (if n < 18446744073709551616 then .tuple [u64 n, .bool true] else .tuple [u64 0, .bool false], H) := by
 obtain ⟨sl, rfl, ha, _⟩ := hv
 have hval := val_digs n
 have hsm := digs_small n
 have hB : B = 4294967296 := rfl
 show f92 slow K (runQ wk tab slow K d) (.agg [sl]) H = _
 simp only [f92, z_bbox, z_lfld, z_lld0, blen ha, z_eql, z_cond]
 match hd : digs n with
 | [] =>
  rw [hd] at hval
  have h0 : n = 0 := hval.symm
  subst h0
  rfl
 | [a] =>
  rw [hd] at hval ha hsm
  have ha1 := hsm a (by simp)
  have hn : n = a := by rw [<- hval]; simp [val]
  have hld : ∀ k, slow.idx 1 sl (.int .i64 0) (fun p => slow.load 1 false p H k) = k (u32 a) := fun k => ha.load (i := 0) rfl .i64 k
  subst hn
  rw [if_pos (by omega)]
  have e0 : ((([n] : List Nat).length : Nat) : Int) = 1 := rfl
  simp only [e0]
  have e1 : ((1 : Int) == 0) = false := rfl
  simp only [e1, cond_false, beq_self_eq_true, cond_true, hld]
  rw [n_conv64 _ .u32 n (by omega), z_rest_int]
 | [a, b] =>
  rw [hd] at hval ha hsm
  have ha1 := hsm a (by simp)
  have hb1 := hsm b (by simp)
  have hn : n = b * 4294967296 + a := by
   have e : val [a, b] = a + 4294967296 * (b + 4294967296 * 0) := rfl
   rw [<- hval, e]; omega
  have hld0 : ∀ k, slow.idx 1 sl (.int .i64 0) (fun p => slow.load 1 false p H k) = k (u32 a) := fun k => ha.load (i := 0) rfl .i64 k
  have hld1 : ∀ k, slow.idx 1 sl (.int .i64 1) (fun p => slow.load 1 false p H k) = k (u32 b) := fun k => ha.load (i := 1) rfl .i64 k
  have hlt : n < 18446744073709551616 := by omega
  rw [if_pos hlt]
  have e0 : ((([a, b] : List Nat).length : Nat) : Int) = 2 := rfl
  simp only [e0]
  have e1 : ((2 : Int) == 0) = false := rfl
  have e2 : ((2 : Int) == 1) = false := rfl
  simp only [e1, e2, cond_false, beq_self_eq_true, cond_true, hld0, hld1]
  rw [n_conv64 _ .u32 b (by omega), show (SV.int .u64 32) = SV.int .u64 ((32 : Nat) : Int) from rfl, n_shl64 _ .u64 b 32 (by decide) (by omega), n_conv64 _ .u32 a (by omega), n_or64 _ (by omega) (by omega)]
  rw [show b * 2 ^ 32 ||| a = b * 4294967296 + a from or_add b a (by omega), <- hn, z_rest_int]
 | a :: b :: c :: rest =>
  have hge : ¬ n < 18446744073709551616 := fun h => by
   have := digs_len_le (n := n) (k := 2) h
   rw [hd] at this
   simp at this
  rw [if_neg hge]
  have e1 : ((((a :: b :: c :: rest : List Nat).length : Nat) : Int) == 0) = false := beq_eq_false_iff_ne.2 (by simp only [List.length_cons]; omega)
  have e2 : ((((a :: b :: c :: rest : List Nat).length : Nat) : Int) == 1) = false := beq_eq_false_iff_ne.2 (by simp only [List.length_cons]; omega)
  have e3 : ((((a :: b :: c :: rest : List Nat).length : Nat) : Int) == 2) = false := beq_eq_false_iff_ne.2 (by simp only [List.length_cons]; omega)
  simp only [e1, e2, e3, cond_false]
  rfl
def fits64 (z : Int) : Bool := decide (-9223372036854775808 <= z /\ z < 9223372036854775808)
theorem fits64_iff : fits64 z = true ↔ I64 z := by simp [fits64, I64]
theorem wrap_neg (h0 : 0 < n) (h : n <= 9223372036854775808) : IntKind.wrap .i64 ((18446744073709551616 - n : Nat) : Int) = -(n : Int) := by
 have h1 : (((18446744073709551616 - n : Nat) : Int)) % ((2 : Int) ^ 64) = ((18446744073709551616 - n : Nat) : Int) := Int.emod_eq_of_lt (by omega) (by omega)
 show (if (true && decide ((((18446744073709551616 - n : Nat) : Int)) % ((2 : Int) ^ 64) >= 2 ^ (64 - 1))) = true then (((18446744073709551616 - n : Nat) : Int)) % ((2 : Int) ^ 64) - 2 ^ 64 else (((18446744073709551616 - n : Nat) : Int)) % ((2 : Int) ^ 64)) = _
 split
 ·omega
 ·rename_i hc
  exfalso
  apply hc
  show decide _ = true
  apply decide_eq_true
  show (((18446744073709551616 - n : Nat) : Int)) % ((2 : Int) ^ 64) >= 2 ^ (64 - 1)
  omega
theorem u_neg64 (h0 : 0 < n) (h : n <= 9223372036854775808) (k : K1) : slow.u_neg (u64 n) (fun x => slow.conv .i64 x k) = k (.int .i64 (-(n : Int))) := by
 have e2 : IntKind.wrap .u64 (0 - (n : Int)) = ((18446744073709551616 - n : Nat) : Int) := by
  simp only [IntKind.wrap, IntKind.signed, IntKind.bits, Bool.false_and, Bool.false_eq_true, if_false]
  omega
 have e3 := wrap_neg h0 h
 show (opP (.un .neg) [u64 n]).bind (fun x => slow.conv .i64 x k) = _
 simp only [opP, unOp, wrapB, Option.bind_some]
 rw [e2, z_conv, e3]
theorem zi64_ok (K : Nat) (d : Nat) (H : Heap) {v : SV} (hv : IsInt H v z) (hz : z.natAbs < 2 ^ 4096) :
  runQ wk tab slow K (d + 2) 64 [v] H = some (if fits64 z then .tuple [.int .i64 z, .bool true] else .tuple [.int .i64 0, .bool false], H) := by
 obtain ⟨sl, rfl, ha, hf⟩ := hv
 have h2 := digs_len hz
 have hu := nu64_ok K d H (v := .agg [sl]) (n := z.natAbs) ⟨sl, rfl, ha, hf⟩ (by omega)
 have no : fits64 z = false -> f64_j1 slow K (runQ wk tab slow K (d + 1)) (.box [.bool (decide (z < 0)), sl]) (u64 z.natAbs) (.bool true) H = some (if fits64 z then .tuple [.int .i64 z, .bool true] else .tuple [.int .i64 0, .bool false], H) := fun h => by
  rw [h]; rfl
 have yes : fits64 z = true -> f64_j1 slow K (runQ wk tab slow K (d + 1)) (.box [.bool (decide (z < 0)), sl]) (u64 z.natAbs) (.bool false) H = some (if fits64 z then .tuple [.int .i64 z, .bool true] else .tuple [.int .i64 0, .bool false], H) := fun h => by
  have hi := fits64_iff.1 h
  unfold I64 at hi
  rw [h]
  simp only [f64_j1, z_cond, cond_false, z_lfld, z_lld0]
  by_cases hn : z < 0
  ·rw [decide_eq_true hn, cond_true, u_neg64 (by omega) (by omega), z_rest_int, show -((z.natAbs : Nat) : Int) = z by omega]
   rfl
  ·rw [decide_eq_false hn, cond_false, n_convi _ .u64 _ (by omega), z_rest_int, show ((z.natAbs : Nat) : Int) = z by omega]
   rfl
 show f64 slow K (runQ wk tab slow K (d + 1)) _ H = _
 simp only [f64, z_bbox, z_lfld, z_lldn, hu, z_call]
 by_cases h1 : z.natAbs < 18446744073709551616
 ·rw [if_pos h1]
  simp only [z_ext0, z_ext1, z_not, Bool.not_true, z_guard, cond_false]
  rw [show (SV.int .u64 9223372036854775808) = u64 9223372036854775808 from rfl]
  simp only [n_gtr, n_eql, z_guard]
  by_cases h2 : z.natAbs > 9223372036854775808
  ·rw [decide_eq_true h2, cond_true]
   exact no (decide_eq_false (by omega))
  ·rw [decide_eq_false h2, cond_false]
   by_cases h3 : z.natAbs = 9223372036854775808
   ·rw [decide_eq_true h3, cond_true]
    simp only [z_lfld, z_lld0, z_not]
    by_cases hn : z < 0
    ·rw [decide_eq_true hn, Bool.not_true] at *
     exact yes (decide_eq_true (by omega))
    ·rw [decide_eq_false hn, Bool.not_false] at *
     exact no (decide_eq_false (by omega))
   ·rw [decide_eq_false h3, cond_false]
    exact yes (decide_eq_true (by omega))
 ·rw [if_neg h1]
  simp only [z_ext0, z_ext1, z_not, Bool.not_false, z_guard, cond_true]
  have e : fits64 z = false := decide_eq_false (by omega)
  rw [e]
  rfl
def allFit (A : List (List Int)) : Bool := A.all fun r => r.all fits64
end Go.Sh.Of
