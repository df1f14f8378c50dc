/- Contracts of the package mat: Of, Make, Identity. -/
import Derived.Test.YtcecdmacoklhpaaMatLenI
set_option linter.unusedVariables false
set_option linter.unusedSimpArgs false
namespace Go.Sh.Of
open Go

/-- The entry of rows. -/
def ent (rows : List (List Int)) (i j : Nat) : Int := (((rows[i]?).getD [])[j]?).getD 0
/-- How many columns: as the first row says. -/
def colsOf (rows : List (List Int)) : Nat := ((rows[0]?).getD []).length
theorem ent_get {rows : List (List Int)} {i j : Nat} {r : List Int} {z : Int} (hr : rows[i]? = some r) (hz : r[j]? = some z) : ent rows i j = z := by simp [ent, hr, hz]
/-- Rows that are a matrix. -/
def Shaped (rows : List (List Int)) : Prop := rows.length ≤ 16 ∧ ∀ r ∈ rows, 1 ≤ r.length ∧ r.length ≤ 16 ∧ r.length = colsOf rows
theorem shapedB_iff {rows : List (List Int)} : shapedB (rows.map List.length) = true ↔ rows = [] ∨ Shaped rows := by
  unfold shapedB Shaped
  rw [List.all_eq_true]
  cases rows with
  | nil => simp
  | cons r0 rows =>
    have hc : colsOf (r0 :: rows) = r0.length := rfl
    simp only [List.length_map, List.map_cons, List.getElem?_cons_zero, Bool.and_eq_true, decide_eq_true_eq, Option.some.injEq, hc]
    constructor
    · intro h
      right
      refine ⟨by simpa using (h r0.length (by simp)).1, fun r hr => ?_⟩
      have := h r.length (by
        rcases List.mem_cons.1 hr with rfl | hr
        · simp
        · exact List.mem_cons_of_mem _ (List.mem_map_of_mem hr))
      exact ⟨this.2.1, this.2.2.1, this.2.2.2⟩
    · rintro (h | ⟨h1, h2⟩)
      · cases h
      · intro n hn
        obtain ⟨r, hr, rfl⟩ : ∃ r ∈ r0 :: rows, r.length = n := by
          rcases List.mem_cons.1 hn with rfl | hn
          · exact ⟨r0, by simp, rfl⟩
          · obtain ⟨r, hr, rfl⟩ := List.mem_map.1 hn
            exact ⟨r, by simp [hr], rfl⟩
        have := h2 r hr
        exact ⟨by simpa using h1, this.1, this.2.1, this.2.2⟩
theorem matOfE_self {rows : List (List Int)} (h : ∀ r ∈ rows, r.length = colsOf rows) : matOfE (ent rows) rows.length (colsOf rows) = rows := by
  apply List.ext_getElem?
  intro i
  by_cases hi : i < rows.length
  · have hr : rows[i]? = some rows[i] := List.getElem?_eq_getElem hi
    have hl := h rows[i] (List.getElem_mem hi)
    simp only [matOfE, List.getElem?_map, List.getElem?_range hi, Option.map_some]
    rw [hr]
    congr 1
    apply List.ext_getElem?
    intro j
    by_cases hj : j < colsOf rows
    · have hz : (rows[i])[j]? = some (rows[i])[j] := List.getElem?_eq_getElem (by omega)
      rw [rowOfE_get hj, hz, ent_get hr hz]
    · rw [List.getElem?_eq_none (by rw [rowOfE_len]; omega), List.getElem?_eq_none (by omega)]
  · rw [List.getElem?_eq_none (by simp [matOfE]; omega), List.getElem?_eq_none (by omega)]
/-- What Of and Make answer. -/
def ofErr (rows : List (List Int)) : Int := if shapedB (rows.map List.length) then 0 else 5
def ofMat (rows : List (List Int)) : List (List Int) := if shapedB (rows.map List.length) then rows else []
theorem slices_map {ws : List SV} {ns : List Nat} (hl : ws.length = ns.length) (h : ∀ (i : Nat) (w : SV) (n : Nat), ws[i]? = some w → ns[i]? = some n → slen w = n) : ws.map slen = ns := by
  apply List.ext_getElem?
  intro i
  rw [List.getElem?_map]
  by_cases hi : i < ws.length
  · have h1 : ws[i]? = some ws[i] := List.getElem?_eq_getElem hi
    have h2 : ns[i]? = some ns[i] := List.getElem?_eq_getElem (by omega)
    rw [h1, h2, Option.map_some, h i _ _ h1 h2]
  · rw [List.getElem?_eq_none (by omega), List.getElem?_eq_none (by omega)]; rfl
theorem mof_entry (K : Nat) (hK : 2 < K) (d : Nat) {H0 : Heap} {p v : SV} {rows : List (List Int)} (hp : Holds H0 p v) (hv : IsInts2 H0 v rows) (hsm : ∀ r ∈ rows, ∀ z ∈ r, I64 z) (hcol : ∀ r ∈ rows, r.length = colsOf rows) :
    EntryOk (runQ wk tab slow K (d + 4)) 53 [p] H0 rows.length (colsOf rows) (ent rows) := fun i j H hi hj hf => by
  obtain ⟨r, hr⟩ : ∃ r, rows[i]? = some r := ⟨_, List.getElem?_eq_getElem hi⟩
  have hl := hcol r (List.mem_of_getElem? hr)
  obtain ⟨z, hz⟩ : ∃ z, r[j]? = some z := ⟨_, List.getElem?_eq_getElem (by omega)⟩
  have hs := hsm r (List.mem_of_getElem? hr) z (List.mem_of_getElem? hz)
  obtain ⟨w, hw, ha⟩ := (hv.fr hf).load (i := i) (cs := intsL .i64 r) (by simp [hr])
  obtain ⟨q, H1, h1, f1, hq⟩ := zof_ok K hK (d + 0) H hs.1 hs.2
  rw [ent_get hr hz]
  obtain ⟨sl, rfl, h2, h3⟩ := hq
  show ∃ r H', f53 slow K (runQ wk tab slow K (d + 3)) (i64 i) (i64 j) p H = _ ∧ _
  refine ⟨_, H1, ?_, f1, sl, rfl, h2, h3⟩
  simp only [f53, (hp.fr hf).load, hw, ha.load (ints_get hz), h1, z_call, z_bst2, z_resc2]
theorem mof_ok (K : Nat) (hK : 100000 < K) (d : Nat) (H : Heap) {v : SV} {rows : List (List Int)} (hv : IsInts2 H v rows) (hsm : ∀ r ∈ rows, ∀ z ∈ r, I64 z) (hrl : rows.length < 100000) :
    ∃ r H', runQ wk tab slow K (d + 6) 27 [v] H = some (.tuple [r, .int .i64 (ofErr rows)], H') ∧ Frame H H' ∧ IsMatF H.size H' r (ofMat rows) := by
  show ∃ r H', f27 slow K (runQ wk tab slow K (d + 5)) v H = _ ∧ _
  obtain ⟨p, H1, hb, f1, hp, hpg⟩ := z_boxH hv.flat H
  have hv1 := hv.fr f1
  obtain ⟨ws, hws, hwl, hwr⟩ := hv1
  have hwl' : ws.length = rows.length := by simpa using hwl
  have hwr' : ∀ (i : Nat) w r, ws[i]? = some w → rows[i]? = some r → isSlice w ∧ slen w = r.length := fun i w r hw hr => by have := Arr.slen (hwr i w (intsL .i64 r) hw (by simp [hr])); simpa using this
  have hsl : ∀ w ∈ ws, isSlice w := fun w hw => by
    obtain ⟨i, hi⟩ := List.getElem?_of_mem hw
    obtain ⟨r, hr⟩ : ∃ r, rows[i]? = some r := ⟨_, List.getElem?_eq_getElem (by have := (List.getElem?_eq_some_iff.1 hi).1; omega)⟩
    exact (hwr' i w r hi hr).1
  obtain ⟨u, H2, h2, f2, a2⟩ := lengthsI_ok K (d + 4) H1 hws hsl (by omega) (by omega)
  have hmap : ws.map slen = rows.map List.length := slices_map (by simp [hwl']) fun i w n hw hn => by
    rw [List.getElem?_map, Option.map_eq_some_iff] at hn
    obtain ⟨r, hr, rfl⟩ := hn
    exact (hwr' i w r hw hr).2
  rw [hmap] at a2
  have h3 := shaped_ok K (d + 4) H2 a2 (by simp; omega) hK
  have f12 := Frame.trans f1 f2
  have hp2 := hp.fr f2
  have hws2 := hws.fr f2
  have hlen : ∀ k, slow.len v k = k (i64 rows.length) := fun k => by rw [hws2.len, hwl']
  simp only [f27, hb, hp.load, h2, z_call, h3, z_not, z_cond]
  cases hsh : shapedB (rows.map List.length) with
  | false =>
    have e1 : ofErr rows = 5 := by unfold ofErr; rw [hsh]; rfl
    have e2 : ofMat rows = [] := by unfold ofMat; rw [hsh]; rfl
    rw [e1, e2]
    simp only [Bool.not_false, cond_true, z_build0, z_bst1, z_resc1]
    exact ⟨_, H2, rfl, f12, IsMatF.nil _ H2⟩
  | true =>
    have e1 : ofErr rows = 0 := by unfold ofErr; rw [hsh]; rfl
    have e2 : ofMat rows = rows := by unfold ofMat; rw [hsh]; rfl
    rw [e1, e2]
    simp only [Bool.not_true, cond_false, hp2.load, hlen, z_eql, z_cond]
    by_cases h0 : rows = []
    · have hz : ((rows.length : Int) == 0) = true := by rw [h0]; rfl
      simp only [hz, cond_true, z_build0, z_bst1, z_resc1]
      rw [h0]
      exact ⟨_, H2, rfl, f12, IsMatF.nil _ H2⟩
    · have hpos := List.length_pos_iff.2 h0
      have hz : ((rows.length : Int) == 0) = false := beq_eq_false_iff_ne.2 (by omega)
      obtain ⟨g1, g2⟩ := (shapedB_iff.1 hsh).resolve_left h0
      have hcol : ∀ r ∈ rows, r.length = colsOf rows := fun r hr => (g2 r hr).2.2
      obtain ⟨r0, hr0⟩ : ∃ r, rows[0]? = some r := ⟨_, List.getElem?_eq_getElem hpos⟩
      obtain ⟨w0, hw0⟩ : ∃ w, ws[0]? = some w := ⟨_, List.getElem?_eq_getElem (by omega)⟩
      have hc0 : colsOf rows = r0.length := by simp [colsOf, hr0]
      have hl0 : ∀ k, slow.len w0 k = k (i64 (colsOf rows)) := fun k => by
        rw [len_slen (hwr' 0 w0 r0 hw0 hr0).1, (hwr' 0 w0 r0 hw0 hr0).2, hc0]
      have hld : ∀ k, slow.idx 1 v (.int .i64 0) (fun p => slow.load 1 false p H2 k) = k w0 := fun k => hws2.load (i := 0) hw0 .i64 k
      have hc16 : colsOf rows ≤ 16 := by rw [hc0]; exact (g2 r0 (List.mem_of_getElem? hr0)).2.1
      obtain ⟨q, H3, h4, f3, hm⟩ := made_ok K hK (d + 4) (H0 := H2) (rows := rows.length) (cols := colsOf rows) (by omega) (by omega) (mof_entry K (by omega) d hp2 (hv.fr f12) hsm hcol)
      rw [matOfE_self hcol] at hm
      obtain ⟨mw, rfl, hmr⟩ := hm
      simp only [hz, cond_false, hld, hl0, z_mkfn0 _ hpg, h4, z_call, z_bst1, z_resc1]
      exact ⟨_, H3, rfl, Frame.trans f12 f3, IsMatF.mono ⟨mw, rfl, hmr⟩ f12.size⟩
/-- The identity. -/
def idRows (n : Nat) : List (List Int) := matOfE (fun i j => if i = j then 1 else 0) n n
theorem ident_entry (K : Nat) (hK : 2 < K) (d : Nat) (H0 : Heap) (n : Nat) (hn : n < 100000) : EntryOk (runQ wk tab slow K (d + 4)) 47 [] H0 n n (fun i j => if i = j then 1 else 0) := fun i j H hi hj hf => by
  show ∃ r H', f47 slow K (runQ wk tab slow K (d + 3)) (i64 i) (i64 j) H = _ ∧ _
  simp only [f47, n_eql, z_cond]
  by_cases h : i = j
  · obtain ⟨q, H1, h1, f1, hq⟩ := zof_ok K hK d H (z := 1) (by omega) (by omega)
    obtain ⟨sl, rfl, h2, h3⟩ := hq
    simp only [decide_eq_true h, cond_true, h1, z_call, z_bst2, z_resc2, if_pos h]
    exact ⟨_, H1, rfl, f1, sl, rfl, h2, h3⟩
  · simp only [decide_eq_false h, cond_false, z_build0, z_bst2, z_resc2, if_neg h]
    exact ⟨_, H, rfl, Fr.refl _ _, IsInt.zero H⟩
theorem ident_ok (K : Nat) (hK : 100000 < K) (d : Nat) (H : Heap) {n : Int} :
    ∃ r H', runQ wk tab slow K (d + 6) 20 [.int .i64 n] H = some (.tuple [r, .int .i64 (if n < 0 ∨ n > 16 then 5 else 0)], H') ∧ Frame H H' ∧ IsMatF H.size H' r (if n < 0 ∨ n > 16 then [] else idRows n.toNat) := by
  show ∃ r H', f20 slow K (runQ wk tab slow K (d + 5)) (.int .i64 n) H = _ ∧ _
  simp only [f20, z_lss, z_gtr, z_guard]
  by_cases h1 : n < 0
  · rw [if_pos (Or.inl h1), if_pos (Or.inl h1)]
    simp only [decide_eq_true h1, cond_true, f20_j1, z_cond, z_build0, z_bst1, z_resc1]
    exact ⟨_, H, rfl, Fr.refl _ _, IsMatF.nil _ H⟩
  · by_cases h2 : n > 16
    · rw [if_pos (Or.inr h2), if_pos (Or.inr h2)]
      simp only [decide_eq_false h1, decide_eq_true h2, cond_true, cond_false, f20_j1, z_cond, z_build0, z_bst1, z_resc1]
      exact ⟨_, H, rfl, Fr.refl _ _, IsMatF.nil _ H⟩
    · have hno : ¬ (n < 0 ∨ n > 16) := by omega
      rw [if_neg hno, if_neg hno]
      obtain ⟨m, rfl⟩ : ∃ m : Nat, n = m := ⟨n.toNat, by omega⟩
      obtain ⟨q, H3, h4, f3, hm⟩ := made_ok K hK (d + 4) (H0 := H) (rows := m) (cols := m) (by omega) (by omega) (ident_entry K (by omega) d H m (by omega))
      obtain ⟨mw, rfl, hmr⟩ := hm
      simp only [decide_eq_false h1, decide_eq_false h2, cond_false, f20_j1, z_cond, h4, z_call, z_bst1, z_resc1]
      exact ⟨_, H3, rfl, f3, mw, rfl, hmr⟩
end Go.Sh.Of
