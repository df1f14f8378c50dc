/- Contracts of the package mat: rows and matrices; shaped, made. Contracts of the package mat: Text; words for rows of numbers and of texts. Contracts of the package mat: lengths of rows. Contracts of the package mat: lengths of rows. Contracts of the package mat: Of, Make, Identity. Contracts of the package mat: made, where the function that tells entries keeps the first error in a box. Matrices of whole numbers: plain laws of products, sums, transposes. Contracts of the package mat: Parse, whole, Size, Add, Mul, Transpose, Same. Contracts: Uint64, Int64 of numbers and of matrices. -/
import Derived.Test.YtfjgbobjpjkamaaGreatNum
import Derived.Test.YtfjgbobjpjkamaaGreatSh31
set_option linter.unusedVariables false
set_option linter.unusedSimpArgs false
namespace Go.Sh.Of
open Go
theorem IsInt.keep {H H' : Heap} {v : SV} {z : Int} (h : IsInt H v z) {X : Nat -> Prop} (hX : ∀ r row, X r -> H.get r = some row -> ∀ c ∈ row.cells, ∀ kd n, c ≠ .int kd n) (hro : ∀ r, ¬ X r -> r < H.size -> H'.get r = H.get r) : IsInt H' v z := by
 obtain ⟨sl, rfl, ha, hf⟩ := h
 refine ⟨sl, rfl, ?_, hf⟩
 obtain ⟨s, rfl, h2, h3⟩ := ha
 refine ⟨s, rfl, h2, ?_⟩
 rcases h3 with h3 | ⟨r, o, row, b1, b2, b3, b4⟩
 ·exact .inl h3
 ·cases hd : digs z.natAbs with
  | nil => left; rfl
  | cons d ds =>
   right
   rw [hd] at b4
   have h0 := b4 0 (u32 d) rfl
   have hne : ¬ X r := fun e => hX r row e b2 _ (List.mem_of_getElem? h0) _ _ rfl
   exact ⟨r, o, row, b1, by rw [hro r hne (Heap.get_lt b2)]; exact b2, b3, b4⟩
def zCell (e : List SV) : Prop := ∃ b s, e = [.bool b, .slice s]
theorem IsInt.cell {H : Heap} {e : List SV} {z : Int} (h : IsInt H (.agg e) z) : zCell e := by
 obtain ⟨sl, e1, ⟨s, rfl, _⟩, _⟩ := h
 cases e1
 exact ⟨_, _, rfl⟩
theorem zCells_flat {els : List (List SV)} (h : ∀ e ∈ els, zCell e) : ∀ c ∈ els.flatten, ∀ kd n, c ≠ .int kd n := fun c hc kd n => by
 obtain ⟨e, he, hce⟩ := List.mem_flatten.1 hc
 obtain ⟨b, s, rfl⟩ := h e he
 simp at hce
 rcases hce with rfl | rfl <;> simp
def slen : SV -> Nat
 | .slice s => s.len
 | _ => 0
def isSlice : SV -> Prop
 | .slice _ => True
 | _ => False
theorem isSlice_not_int {c : SV} (h : isSlice c) (kd : IntKind) (n : Int) : c ≠ .int kd n := fun e => by subst e; exact h
theorem Own.cells {lo : Nat} {H : Heap} {v : SV} {cs : List SV} (h : Own lo H v cs) {r : Nat} {row : Row} (hr : inRow v r) (hg : H.get r = some row) : row.cells = cs := by
 obtain ⟨base, rfl, h⟩ := h
 obtain ⟨s, o, e, h4⟩ := hr
 cases e
 rcases h with ⟨rfl, _⟩ | ⟨r', ver, rfl, h2, h3⟩
 ·cases h4
 ·cases h4; rw [h3] at hg; cases hg; rfl
theorem OwnS.cells {n lo : Nat} {H : Heap} {v : SV} {els : List (List SV)} (h : OwnS n lo H v els) {r : Nat} {row : Row} (hr : inRow v r) (hg : H.get r = some row) : row.cells = els.flatten := by
 obtain ⟨hn, base, rfl, h⟩ := h
 obtain ⟨s, o, e, h4⟩ := hr
 cases e
 rcases h with ⟨rfl, _⟩ | ⟨r', ver, rfl, h2, h3⟩
 ·cases h4
 ·cases h4; rw [h3] at hg; cases hg; rfl
def shapedB (ns : List Nat) : Bool := ns.all fun n => decide (ns.length <= 16) && (decide (1 <= n) && (decide (n <= 16) && decide (some n = ns[0]?)))
theorem nats_get {ns : List Nat} {i n : Nat} (h : ns[i]? = some n) : (ns.map i64)[i]? = some (i64 n) := by simp [h]
theorem shaped_loop (C : CallC) (K : Nat) {H : Heap} {v : SV} {ns : List Nat} (hv : Arr H v (ns.map i64)) (hb : ns.length < 100000) : ∀ (rest : List Nat) (i fuel : Nat), ns.drop i = rest -> rest.length < fuel ->
  slow.loop4 (f36_l1 slow K C) fuel v v (i64 ns.length) (i64 i) H = some (.bool (rest.all fun n => decide (ns.length <= 16) && (decide (1 <= n) && (decide (n <= 16) && decide (some n = ns[0]?)))), H)
 | [], i, fuel, hd, hf => by
  obtain ⟨fuel, rfl⟩ : ∃ m, fuel = m + 1 := ⟨fuel - 1, by omega⟩
  have hi : ¬ i < ns.length := by have := List.drop_eq_nil_iff.1 hd; omega
  rw [z_loop4]
  simp only [f36_l1, n_lss, decide_eq_false hi, z_cond, cond_false, List.all_nil]
 | n :: rest, i, fuel, hd, hf => by
  obtain ⟨fuel, rfl⟩ : ∃ m, fuel = m + 1 := ⟨fuel - 1, by omega⟩
  have hn : ns[i]? = some n := by
   have := congrArg List.head? hd
   rwa [List.head?_drop, List.head?_cons] at this
  have hi : i < ns.length := (List.getElem?_eq_some_iff.1 hn).1
  have hd' : ns.drop (i + 1) = rest := by rw [<- List.drop_drop, hd]; rfl
  obtain ⟨m, hm⟩ : ∃ m, ns[0]? = some m := ⟨_, List.getElem?_eq_getElem (by omega)⟩
  have h0 : ∀ k, slow.idx 1 v (.int .i64 0) (fun p => slow.load 1 false p H k) = k (i64 m) := fun k => hv.load (i := 0) (nats_get hm) .i64 k
  have hlen : ∀ k, slow.len v k = k (i64 ns.length) := fun k => by rw [hv.len]; simp
  rw [z_loop4]
  simp only [f36_l1, n_lss, decide_eq_true hi, z_cond, cond_true, hv.load (nats_get hn), hlen]
  rw [show (SV.int .i64 16) = i64 16 from rfl, n_gtr, z_guard]
  rw [List.all_cons]
  by_cases h1 : ns.length > 16
  ·rw [decide_eq_true h1, cond_true, decide_eq_false (show ¬ ns.length <= 16 by omega)]
   simp only [f36_j3, z_cond, cond_true, Bool.false_and]
  ·rw [decide_eq_false h1, cond_false, decide_eq_true (show ns.length <= 16 by omega), show (SV.int .i64 1) = i64 1 from rfl, n_lss, z_guard]
   by_cases h2 : n < 1
   ·rw [decide_eq_true h2, cond_true, decide_eq_false (show ¬ 1 <= n by omega)]
    simp only [f36_j3, z_cond, cond_true, Bool.false_and, Bool.and_false]
   ·rw [decide_eq_false h2, cond_false, decide_eq_true (show 1 <= n by omega), n_gtr, z_guard]
    by_cases h3 : n > 16
    ·rw [decide_eq_true h3, cond_true, decide_eq_false (show ¬ n <= 16 by omega)]
     simp only [f36_j3, z_cond, cond_true, Bool.false_and, Bool.and_false]
    ·rw [decide_eq_false h3, cond_false, decide_eq_true (show n <= 16 by omega), h0, n_neq]
     by_cases h4 : n ≠ m
     ·have h5 : ¬ (some n = ns[0]?) := by rw [hm]; intro e; exact h4 (Option.some.inj e)
      rw [decide_eq_true h4, decide_eq_false h5]
      simp only [f36_j3, z_cond, cond_true, Bool.false_and, Bool.and_false]
     ·have h5 : some n = ns[0]? := by rw [hm, Decidable.not_not.1 h4]
      rw [decide_eq_false h4, decide_eq_true h5]
      simp only [f36_j3, z_cond, cond_false, Bool.true_and]
      rw [show (SV.int .i64 1) = i64 1 from rfl, n_addi _ (by omega)]
      have ih := shaped_loop C K hv hb rest (i + 1) fuel hd' (by simp at hf; omega)
      rw [decide_eq_true (show ns.length <= 16 by omega)] at ih
      simp only [Bool.true_and] at ih
      exact ih
theorem shaped_ok (K : Nat) (d : Nat) (H : Heap) {v : SV} {ns : List Nat} (hv : Arr H v (ns.map i64)) (hb : ns.length < 100000) (hK : 100000 < K) : runQ wk tab slow K (d + 1) 36 [v] H = some (.bool (shapedB ns), H) := by
 show f36 slow K (runQ wk tab slow K d) v H = _
 simp only [f36, hv.len]
 rw [show (ns.map i64).length = ns.length by simp]
 exact shaped_loop _ K hv hb ns 0 K rfl (by omega)
theorem OwnS.geA {n lo : Nat} {H : Heap} {v : SV} {els : List (List SV)} (h : OwnS n lo H v els) {r : Nat} (hr : inRow v r) : lo <= r := by
 obtain ⟨_, base, rfl, h⟩ := h
 obtain ⟨s, o, e, h4⟩ := hr
 cases e
 rcases h with ⟨rfl, _⟩ | ⟨r', ver, rfl, h2, h3⟩
 ·cases h4
 ·cases h4; exact h2
end Go.Sh.Of
namespace Go.Sh.Of
open Go
theorem push1 {lo : Nat} {H : Heap} {t : SV} {cs : List SV} (h : Own lo H t cs) (hl : lo <= H.size) (z : SV) {x : SV} (hx : x.flat = true) {by_ : Nat} (hr : roomy (cs.length + 1) by_ = true) :
  ∃ t' H', (∀ k, slow.hbuild 1 [z] [(0, 1)] [x] H (fun u H1 => slow.append 1 by_ t u H1 k) = k t' H') /\ Own lo H' t' (cs ++ [x]) /\ Fr lo H H' /\ (∀ r, ¬ inRow t r -> r < H.size -> H'.get r = H.get r) := by
 obtain ⟨u, H1, hu, hou, hfu, hru, hsz⟩ := z_lay1 (H := H) (lo := H.size) (Nat.le_refl _) z hx
 obtain ⟨t', H2, ha, ho2, hf2, hrw, _, _⟩ := (h.fr hfu).append (Nat.le_trans hl hfu.size) hou.arr (by_ := by_) hr
 exact ⟨t', H2, fun k => by rw [hu, ha], ho2, (hfu.mono hl).trans hf2, fun r hn hlt => by rw [hrw r hn (Nat.lt_of_lt_of_le hlt hfu.size), hfu.rows r hlt]⟩
theorem pushS {n lo : Nat} (hn : 0 < n) (hn' : n <= 1000) {H : Heap} {t : SV} {els : List (List SV)} (h : OwnS n lo H t els) (hl : lo <= H.size) (z : List SV) (hz : z.length = n) {e : List SV} (he : e.length = n) {by_ : Nat} (hr : roomy (els.length + 1) by_ = true) :
  ∃ t' H', (∀ k, slow.hbuild n z [(0, n)] [.agg e] H (fun u H1 => slow.append n by_ t u H1 k) = k t' H') /\ OwnS n lo H' t' (els ++ [e]) /\ Fr lo H H' /\ (∀ r, ¬ inRow t r -> r < H.size -> H'.get r = H.get r) := by
 obtain ⟨u, H1, hu, hou, hfu, hru, hsz⟩ := z_layS (H := H) (lo := H.size) (Nat.le_refl _) n hn hn' z hz he
 obtain ⟨t', H2, ha, ho2, hf2, hrw, _⟩ := OwnS.append hn (h.fr hfu) (Nat.le_trans hl hfu.size) hou.arr (by_ := by_) hr
 exact ⟨t', H2, fun k => by rw [hu, ha], ho2, (hfu.mono hl).trans hf2, fun r hn hlt => by rw [hrw r hn (Nat.lt_of_lt_of_le hlt hfu.size), hfu.rows r hlt]⟩
def IsRowsC (H : Heap) (v : SV) (rows : List (List SV)) : Prop := ∃ ws, Arr H v ws /\ ws.length = rows.length /\ ∀ (i : Nat) w cs, ws[i]? = some w -> rows[i]? = some cs -> Arr H w cs
theorem IsRowsC.fr {H H' : Heap} {v : SV} {rows : List (List SV)} (h : IsRowsC H v rows) (hf : Frame H H') : IsRowsC H' v rows := by
 obtain ⟨ws, h1, h2, h3⟩ := h
 exact ⟨ws, h1.fr hf, h2, fun i w zs hw hz => (h3 i w zs hw hz).fr hf⟩
theorem IsRowsC.len {H : Heap} {v : SV} {rows : List (List SV)} (h : IsRowsC H v rows) (k : K1) : slow.len v k = k (i64 rows.length) := by
 obtain ⟨ws, h1, h2, h3⟩ := h
 rw [h1.len, h2]
theorem IsRowsC.flat {H : Heap} {v : SV} {rows : List (List SV)} (h : IsRowsC H v rows) : v.flat = true := by
 obtain ⟨ws, h1, h2, h3⟩ := h
 exact h1.flat
abbrev IsInts2 (H : Heap) (v : SV) (rows : List (List Int)) : Prop := IsRowsC H v (rows.map (intsL .i64))
end Go.Sh.Of
namespace Go.Sh.Of
open Go
end Go.Sh.Of
namespace Go.Sh.Of
open Go
end Go.Sh.Of
namespace Go.Sh.Of
open Go
def ent (rows : List (List Int)) (i j : Nat) : Int := (((rows[i]?).getD [])[j]?).getD 0
def colsOf (rows : List (List Int)) : Nat := ((rows[0]?).getD []).length
theorem ent_get {rows : List (List Int)} {i j : Nat} {r : List Int} {z : Int} (hr : rows[i]? = some r) (hz : r[j]? = some z) : ent rows i j = z := by simp [ent, hr, hz]
end Go.Sh.Of
namespace Go.Sh.Of
open Go
theorem Arr.keepG {H H' : Heap} {v : SV} {cs : List SV} (h : Arr H v cs) {X : Nat -> Prop} (hX : ∀ c0 ∈ cs, ∀ r row, X r -> H.get r = some row -> ∀ c ∈ row.cells, c ≠ c0) (hro : ∀ r, ¬ X r -> r < H.size -> H'.get r = H.get r) : Arr H' v cs := by
 obtain ⟨s, rfl, h2, h3⟩ := h
 refine ⟨s, rfl, h2, ?_⟩
 rcases h3 with h3 | ⟨r, o, row, b1, b2, b3, b4⟩
 ·exact .inl h3
 ·cases cs with
  | nil => left; rfl
  | cons c cs =>
   right
   have h0 := b4 0 c rfl
   have hne : ¬ X r := fun hx => hX c (by simp) r row hx b2 _ (List.mem_of_getElem? h0) rfl
   exact ⟨r, o, row, b1, by rw [hro r hne (Heap.get_lt b2)]; exact b2, b3, b4⟩
end Go.Sh.Of
namespace Go.Sh.Of
open Go
structure Good (A : List (List Int)) : Prop where
 rect : ∀ r ∈ A, r.length = colsOf A
 cols : A ≠ [] -> 1 <= colsOf A /\ colsOf A <= 16
 rows : A.length <= 16
 big : ∀ r ∈ A, ∀ z ∈ r, z.natAbs < 2 ^ 4096
theorem Good.c16 {A : List (List Int)} (h : Good A) : colsOf A <= 16 := by
 by_cases ha : A = []
 ·subst ha; simp [colsOf]
 ·exact (h.cols ha).2
end Go.Sh.Of
namespace Go.Sh.Of
open Go
theorem fitZ_yes {z : Int} (h : z.natAbs < 2 ^ 4096) : fitZ z = z := by unfold fitZ; rw [if_pos h]
end Go.Sh.Of
namespace Go.Sh.Of
open Go Go.Sh
end Go.Sh.Of
