/- Contracts of the package mat: made, where the function that tells entries keeps the first error in a box. -/
import Derived.Test.YtcecdmacoklhpaaMatC
set_option linter.unusedVariables false
set_option linter.unusedSimpArgs false
namespace Go.Sh.Of
open Go

theorem Arr.keepG {H H' : Heap} {v : SV} {cs : List SV} (h : Arr H v cs) {X : Nat → Prop} (hX : ∀ c0 ∈ cs, ∀ r row, X r → H.get r = some row → ∀ c ∈ row.cells, c ≠ c0) (hro : ∀ r, ¬ X r → r < H.size → H'.get r = H.get r) : Arr H' v cs := by
  obtain ⟨s, rfl, h2, h3⟩ := h
  refine ⟨s, rfl, h2, ?_⟩
  rcases h3 with h3 | ⟨r, o, row, b1, b2, b3, b4⟩
  · exact .inl h3
  · cases cs with
    | nil => left; rfl
    | cons c cs =>
      right
      have h0 := b4 0 c rfl
      have hne : ¬ X r := fun hx => hX c (by simp) r row hx b2 _ (List.mem_of_getElem? h0) rfl
      exact ⟨r, o, row, b1, by rw [hro r hne (Heap.get_lt b2)]; exact b2, b3, b4⟩
theorem IsInt.keepU {H H' : Heap} {v : SV} {z : Int} (h : IsInt H v z) {X : Nat → Prop} (hX : ∀ r row, X r → H.get r = some row → ∀ c ∈ row.cells, ∀ n, c ≠ .int .u32 n) (hro : ∀ r, ¬ X r → r < H.size → H'.get r = H.get r) : IsInt H' v z := by
  obtain ⟨sl, rfl, ha, hf⟩ := h
  refine ⟨sl, rfl, Arr.keepG ha (fun c0 hc0 r row hx hg c hc => ?_) hro, hf⟩
  obtain ⟨d, _, rfl⟩ := List.mem_map.1 hc0
  exact hX r row hx hg c hc _
theorem IsZs.keepU {H H' : Heap} {v : SV} {zs : List Int} (h : IsZs H v zs) {X : Nat → Prop} (hv : ∀ r, inRow v r → ¬ X r) (hX : ∀ r row, X r → H.get r = some row → ∀ c ∈ row.cells, ∀ n, c ≠ .int .u32 n) (hro : ∀ r, ¬ X r → r < H.size → H'.get r = H.get r) : IsZs H' v zs := by
  obtain ⟨els, h1, h2, h3⟩ := h
  refine ⟨els, ?_, h2, fun i e z he hz => (h3 i e z he hz).keepU hX hro⟩
  obtain ⟨s, rfl, g1, g0, g3⟩ := h1
  refine ⟨s, rfl, g1, g0, ?_⟩
  rcases g3 with g3 | ⟨r, o, row, b1, b2, b3, b4⟩
  · exact .inl g3
  · exact .inr ⟨r, o, row, b1, by rw [hro r (hv r ⟨s, o, rfl, b1⟩) (Heap.get_lt b2)]; exact b2, b3, b4⟩

/-- All that was there stays, but for the row q. -/
def FrQ (q lo : Nat) (H H' : Heap) : Prop := H.size ≤ H'.size ∧ ∀ r, r < lo → r ≠ q → H'.get r = H.get r
theorem FrQ.refl (q lo : Nat) (H : Heap) : FrQ q lo H H := ⟨Nat.le_refl _, fun _ _ _ => rfl⟩
theorem FrQ.trans {q lo : Nat} {H H' H'' : Heap} (h : FrQ q lo H H') (h' : FrQ q lo H' H'') : FrQ q lo H H'' := ⟨Nat.le_trans h.1 h'.1, fun r hr hn => (h'.2 r hr hn).trans (h.2 r hr hn)⟩
theorem FrQ.mono {q lo lo' : Nat} {H H' : Heap} (h : FrQ q lo H H') (hl : lo' ≤ lo) : FrQ q lo' H H' := ⟨h.1, fun r hr hn => h.2 r (Nat.lt_of_lt_of_le hr hl) hn⟩
theorem FrQ.of_fr {q lo : Nat} {H H' : Heap} (h : Fr lo H H') : FrQ q lo H H' := ⟨h.size, fun r hr _ => h.rows r hr⟩
/-- Beyond a heap that has no row q, nothing changed. -/
theorem FrQ.fr {q lo : Nat} {H H' : Heap} (h : FrQ q lo H H') (hq : lo ≤ q) : Fr lo H H' := ⟨h.1, fun r hr => h.2 r hr (by omega)⟩
/-- The box of a number. -/
def Box (q : Nat) (H : Heap) (st : Int) : Prop := ∃ ver, H.get q = some ⟨2, 1, ver, [.int .i64 st]⟩
theorem Box.of_get {q : Nat} {H H' : Heap} {st : Int} (h : Box q H st) (e : H'.get q = H.get q) : Box q H' st := by
  obtain ⟨ver, hv⟩ := h
  exact ⟨ver, e.trans hv⟩
theorem Box.fr {q lo : Nat} {H H' : Heap} {st : Int} (h : Box q H st) (f : Fr lo H H') (hq : q < lo) : Box q H' st := h.of_get (f.rows q hq)
theorem Box.lt {q : Nat} {H : Heap} {st : Int} (h : Box q H st) : q < H.size := by
  obtain ⟨ver, hv⟩ := h
  exact Heap.get_lt hv
theorem Box.holds {q : Nat} {H : Heap} {st : Int} (h : Box q H st) : Holds H (.ptr (q, 0)) (.int .i64 st) := by
  obtain ⟨ver, hv⟩ := h
  exact ⟨q, _, rfl, hv, by simp, rfl⟩
theorem Box.new (H : Heap) (st : Int) : ∃ H', (∀ k, slow.box (.int .i64 st) H k = k (.ptr (H.size, 0)) H') ∧ Frame H H' ∧ Box H.size H' st ∧ H'.size = H.size + 1 :=
  ⟨H.push (newRow 1 [.int .i64 st]), fun k => z_box rfl H k, Fr.push (Nat.le_refl _) _, ⟨0, Heap.get_push_self _ _⟩, by simp [Heap.size_push]⟩
theorem Box.store {q : Nat} {H : Heap} {st : Int} (h : Box q H st) (st' : Int) : ∃ H', (∀ k, slow.store 1 (.ptr (q, 0)) (.int .i64 st') H k = k H') ∧ Box q H' st' ∧ H'.size = H.size ∧ ∀ r, r ≠ q → H'.get r = H.get r := by
  obtain ⟨ver, hv⟩ := h
  refine ⟨H.set q ⟨2, 1, ver + 1, [.int .i64 st']⟩, fun k => ?_, ⟨ver + 1, Heap.get_set_self hv _⟩, rfl, fun r hr => Heap.get_set_ne _ (Ne.symm hr) _⟩
  show (opE (.store 1) [.ptr (q, 0), .int .i64 st'] H).bind _ = _
  have hb1 : Nat.beq ([SV.int .i64 st'] : List SV).length 1 = true := rfl
  have hb2 : Nat.beq 2 2 = true := rfl
  simp only [opE, SV.item, SV.cells, SV.flat, hb1, Bool.true_and, Bool.and_true, cond_true, Heap.write, hv, hb2, splice_one (cs := [SV.int .i64 st]) (i := 0) (by simp) (.int .i64 st'), Option.map_some, Option.bind_some, List.set_cons_zero]
theorem Box.cells {q : Nat} {H : Heap} {st : Int} (h : Box q H st) : ∀ r row, r = q → H.get r = some row → ∀ c ∈ row.cells, ∀ n, c ≠ .int .u32 n := fun r row e hg c hc n => by
  subst e
  obtain ⟨ver, hv⟩ := h
  rw [hv] at hg
  cases hg
  rw [List.mem_singleton.1 hc]
  intro e
  cases e
theorem IsInt.fq {q : Nat} {H H' : Heap} {v : SV} {z st : Int} (h : IsInt H v z) (b : Box q H st) (f : FrQ q H.size H H') : IsInt H' v z :=
  h.keepU (X := fun r => r = q) b.cells fun r hr hlt => f.2 r hlt hr
theorem IsZs.fq {q lo : Nat} {H H' : Heap} {v : SV} {zs : List Int} {st : Int} (h : IsZs H v zs) (b : Box q H st) (f : FrQ q H.size H H') (hq : q < lo) (hv : ∀ r, inRow v r → lo ≤ r) : IsZs H' v zs :=
  h.keepU (X := fun r => r = q) (fun r hr e => by have := hv r hr; omega) b.cells fun r hr hlt => f.2 r hlt hr
theorem OwnS.fq {n lo q : Nat} {H H' : Heap} {v : SV} {els : List (List SV)} (h : OwnS n lo H v els) (f : FrQ q H.size H H') (hq : q < lo) : OwnS n lo H' v els :=
  OwnS.of_rows h fun r hr => f.2 r (by
    obtain ⟨_, base, rfl, h⟩ := h
    obtain ⟨s, o, e, h4⟩ := hr
    cases e
    rcases h with ⟨rfl, _⟩ | ⟨r', ver, rfl, h2, h3⟩
    · cases h4
    · cases h4; exact Heap.get_lt h3) (by have := OwnS.geA h hr; omega)
theorem Own.fq {lo q : Nat} {H H' : Heap} {v : SV} {cs : List SV} (h : Own lo H v cs) (f : FrQ q H.size H H') (hq : q < lo) : Own lo H' v cs :=
  Own.of_rows h fun r hr => f.2 r (Own.lt h hr) (by have := Own.geA h hr; omega)
/-- The first error of a row; of rows. -/
def stIn (err : Nat → Nat → Int) (i : Nat) : Nat → Nat → Int → Int
  | j, 0, st => st
  | j, m + 1, st => stIn err i (j + 1) m (if st = 0 then err i j else st)
def stOut (err : Nat → Nat → Int) (cols : Nat) : Nat → Nat → Int → Int
  | i, 0, st => st
  | i, m + 1, st => stOut err cols (i + 1) m (stIn err i 0 cols st)
theorem stIn_ne {err : Nat → Nat → Int} {i : Nat} : ∀ {m j : Nat} {st : Int}, st ≠ 0 → stIn err i j m st = st
  | 0, j, st, h => rfl
  | m + 1, j, st, h => by simp only [stIn, if_neg h]; exact stIn_ne h
theorem stIn_zero {err : Nat → Nat → Int} {i m j : Nat} {st : Int} (h : stIn err i j m st = 0) : st = 0 := Decidable.byContradiction fun hn => hn (by rw [stIn_ne hn] at h; exact h)
theorem stOut_ne {err : Nat → Nat → Int} {cols : Nat} : ∀ {m i : Nat} {st : Int}, st ≠ 0 → stOut err cols i m st = st
  | 0, i, st, h => rfl
  | m + 1, i, st, h => by simp only [stOut, stIn_ne h]; exact stOut_ne h
/-- What a function that tells entries does, and keeps the first error. -/
def EntryQ (C : CallC) (g : Nat) (caps : List SV) (H0 : Heap) (q rows cols : Nat) (E err : Nat → Nat → Int) : Prop :=
  ∀ i j H st, i < rows → j < cols → FrQ q H0.size H0 H → Box q H st → ∃ r H', C g ([] ++ ([i64 i, i64 j] ++ caps)) H = some (r, H') ∧ FrQ q H.size H H' ∧ Box q H' (if st = 0 then err i j else st) ∧ ∃ z, IsInt H' r z ∧ (st = 0 → err i j = 0 → z = E i j)
theorem made_inQ (C : CallC) (K : Nat) {g : Nat} {caps : List SV} {H0 Hi : Heap} {q rows cols : Nat} (hq : q < H0.size) (hcols : cols < 100000) (hrows : rows < 100000) {E err : Nat → Nat → Int} (hE : EntryQ C g caps H0 q rows cols E err) (h0i : FrQ q H0.size H0 Hi) {l : SV} {ws : List SV} (hl : Own H0.size Hi l ws) (hwl : ws.length < 100000) (hws : ∀ w ∈ ws, isSlice w) {i : Nat} (hi : i < rows) (bx : SV) (k8 : SV → SV → SV → SV → SV → SV → Heap → Rs) {row : SV} : ∀ (m j fuel : Nat) (H : Heap) (els : List (List SV)) (st : Int), j + m = cols → m < fuel → FrQ q Hi.size Hi H → Box q H st → OwnS 2 Hi.size H row els → els.length = cols → (∀ e ∈ els, zCell e) → (st = 0 → ∀ (p : Nat) e, p < j → els[p]? = some e → IsInt H (.agg e) (E i p)) →
    ∃ l' H', slow.loop10 (f30_l3 slow K C k8) fuel (i64 cols) (.fn g [] caps) bx l (i64 i) row (i64 rows) (i64 i) (i64 cols) (i64 j) H = k8 (i64 cols) (.fn g [] caps) bx l' (i64 rows) (i64 (i + 1)) H' ∧ FrQ q H0.size Hi H' ∧ Box q H' (stIn err i j m st) ∧ (∀ r, ¬ inRow l r → r ≠ q → r < Hi.size → H'.get r = Hi.get r) ∧ Own H0.size H' l' (ws ++ [row]) ∧ isSlice row ∧ (∀ r, inRow row r → Hi.size ≤ r) ∧ (stIn err i j m st = 0 → IsZs H' row (rowOfE E cols i))
  | 0, j, fuel, H, els, st, hjm, hf, hfr, hb, ho, hel, hcell, hdone => by
    obtain ⟨fuel, rfl⟩ : ∃ m, fuel = m + 1 := ⟨fuel - 1, by omega⟩
    have hj : j = cols := by omega
    subst hj
    have hle := h0i.1
    have hlH : Own H0.size H l ws := Own.of_rows hl fun r hr => hfr.2 r (Own.lt hl hr) (by have := Own.geA hl hr; omega)
    obtain ⟨u, H1, hu, hou, hfu, hru, hsz⟩ := z_lay1 (H := H) (lo := H.size) (Nat.le_refl _) (.slice nilSl) (x := row) ho.arr.flat
    have hl1 := hlH.fr hfu
    obtain ⟨l', H2, ha, ho2, hf2, hrw, hin, _⟩ := hl1.append (Nat.le_trans hle (Nat.le_trans hfr.1 hfu.size)) hou.arr (by_ := 24) (roomy_small (by simp; omega))
    have hqH : q < H.size := hb.lt
    have hql : ¬ inRow l q := fun hx => by have := Own.geA hl hx; omega
    have keep : ∀ r, ¬ inRow l r → r < H.size → H2.get r = H.get r := fun r hr hrH => by
      rw [hrw r hr (Nat.lt_of_lt_of_le hrH hfu.size), hfu.rows r hrH]
    refine ⟨l', H2, ?_, ?_, ?_, ?_, ho2, ?_, fun r hr => OwnS.geA ho hr, ?_⟩
    · rw [z_loop10]
      have hlt : ¬ j < j := Nat.lt_irrefl j
      simp only [f30_l3, n_lss, decide_eq_false hlt, z_cond, cond_false, hu, ha]
      rw [show (SV.int .i64 1) = i64 1 from rfl, n_addi _ (by omega)]
    · exact (hfr.mono hle).trans ((FrQ.of_fr (hfu.mono (Nat.le_trans hle hfr.1))).trans (FrQ.of_fr hf2))
    · exact hb.of_get (keep q hql hqH)
    · intro r hr hne hlt
      rw [keep r hr (Nat.lt_of_lt_of_le hlt hfr.1), hfr.2 r hlt hne]
    · obtain ⟨_, base, rfl, _⟩ := ho
      trivial
    · intro h0
      have hz : IsZs H row (rowOfE E j i) := ⟨els, ho.arr, by rw [rowOfE_len, hel], fun p e z he hz => by
        have hp : p < j := by have := (List.getElem?_eq_some_iff.1 he).1; omega
        rw [rowOfE_get hp] at hz
        cases hz
        exact hdone h0 p e hp he⟩
      refine (hz.fr hfu).keep (X := fun r => inRow l r) (fun r rw hr hg c hc => ?_) hrw
      have := Own.cells hl1 hr hg
      rw [this] at hc
      exact hws c hc
  | m + 1, j, fuel, H, els, st, hjm, hf, hfr, hb, ho, hel, hcell, hdone => by
    obtain ⟨fuel, rfl⟩ : ∃ m, fuel = m + 1 := ⟨fuel - 1, by omega⟩
    have hlt : j < cols := by omega
    have hle := h0i.1
    obtain ⟨r, H1, h1, f1, b1, z, hr, hz⟩ := hE i j H st hi hlt (h0i.trans (hfr.mono hle)) hb
    obtain ⟨sl, rfl, hsl, hslf⟩ := hr
    have hint : IsInt H1 (.agg [.bool (decide (z < 0)), sl]) z := ⟨sl, rfl, hsl, hslf⟩
    have ho1 := OwnS.fq ho f1 (by omega)
    obtain ⟨H2, st2, ho2, f2, sz2, hro⟩ := ho1.store (i := j) (by omega) (e := [.bool (decide (z < 0)), sl]) rfl .i64
    have hX : ∀ r row', inRow row r → H1.get r = some row' → ∀ c ∈ row'.cells, ∀ kd n, c ≠ .int kd n := fun r row' hr hg => by
      rw [OwnS.cells ho1 hr hg]
      exact zCells_flat hcell
    have b2 : Box q H2 (if st = 0 then err i j else st) := b1.fr f2 (by omega)
    obtain ⟨l', H3, h3, rest⟩ := made_inQ C K hq hcols hrows hE h0i hl hwl hws hi bx k8 m (j + 1) fuel H2 (els.set j [.bool (decide (z < 0)), sl]) _ (by omega) (by omega) (hfr.trans ((f1.mono hfr.1).trans (FrQ.of_fr f2))) b2 ho2 (by simpa using hel) (fun e he => by
      rcases List.mem_or_eq_of_mem_set he with he | rfl
      · exact hcell e he
      · exact hint.cell) (fun hst p e hp he => by
        by_cases hs : st = 0
        · rw [if_pos hs] at hst
          by_cases hpj : p = j
          · subst hpj
            rw [List.getElem?_set_self (by omega)] at he
            cases he
            rw [← hz hs hst]
            exact hint.keep hX fun r hr _ => hro r hr
          · rw [List.getElem?_set_ne (Ne.symm hpj)] at he
            exact ((hdone hs p e (by omega) he).fq hb f1).keep hX fun r hr _ => hro r hr
        · rw [if_neg hs] at hst
          exact absurd hst hs)
    refine ⟨l', H3, ?_, rest⟩
    rw [z_loop10]
    simp only [f30_l3, n_lss, decide_eq_true hlt, z_cond, cond_true, z_callv, h1, z_call, st2]
    rw [show (SV.int .i64 1) = i64 1 from rfl, n_addi _ (by omega)]
    exact h3
theorem made_outQ (C : CallC) (K : Nat) (hK : 100000 < K) {g : Nat} {caps : List SV} {H0 : Heap} {q rows cols : Nat} (hq : q < H0.size) (hcols : cols < 100000) (hrows : rows < 100000) {E err : Nat → Nat → Int} (hE : EntryQ C g caps H0 q rows cols E err) : ∀ (m i fuel : Nat) (H : Heap) (l : SV) (ws : List SV) (st : Int), i + m = rows → m < fuel → FrQ q H0.size H0 H → Box q H st → Own H0.size H l ws → ws.length = i → (∀ w ∈ ws, isSlice w) → (∀ (p : Nat) (w : SV), ws[p]? = some w → ∀ r, inRow w r → H0.size ≤ r) → (st = 0 → ∀ (p : Nat) (w : SV), ws[p]? = some w → IsZs H w (rowOfE E cols p)) →
    ∃ r H', slow.loop6 (f30_l1 slow K C) fuel (i64 cols) (.fn g [] caps) (.box [.slice nilSl]) l (i64 rows) (i64 i) H = some (r, H') ∧ FrQ q H0.size H0 H' ∧ Box q H' (stOut err cols i m st) ∧ (∃ w, r = .agg [w]) ∧ (stOut err cols i m st = 0 → IsMatF H0.size H' r (matOfE E rows cols))
  | 0, i, fuel, H, l, ws, st, him, hf, hfr, hb, ho, hwl, hws, hge, hdone => by
    obtain ⟨fuel, rfl⟩ : ∃ m, fuel = m + 1 := ⟨fuel - 1, by omega⟩
    have hi : i = rows := by omega
    subst hi
    refine ⟨.agg [l], H, ?_, hfr, hb, ⟨_, rfl⟩, fun h0 => ⟨l, rfl, fun r hr => Own.geA ho hr, ws, ho.arr, by simp [matOfE, hwl], fun p w zs hw hz => ?_⟩⟩
    · rw [z_loop6]
      have hlt : ¬ i < i := Nat.lt_irrefl i
      simp only [f30_l1, n_lss, decide_eq_false hlt, z_cond, cond_false, z_build1 _ _ ho.arr.flat, z_bst1, z_resc1]
    · have hp : p < i := by have := (List.getElem?_eq_some_iff.1 hw).1; omega
      simp [matOfE, hp] at hz
      subst hz
      exact ⟨hdone h0 p w hw, hge p w hw⟩
  | m + 1, i, fuel, H, l, ws, st, him, hf, hfr, hb, ho, hwl, hws, hge, hdone => by
    obtain ⟨fuel, rfl⟩ : ∃ m, fuel = m + 1 := ⟨fuel - 1, by omega⟩
    have hlt : i < rows := by omega
    obtain ⟨row, H1, h1, ho1, f1, hin1, sz1⟩ := z_makeS (H := H) (lo := H.size) (Nat.le_refl _) 2 32 (by decide) [.bool false, .slice nilSl] rfl cols (by omega) (roomy_small (by omega)) .i64 .i64
    obtain ⟨l', H2, h2, f2, b2, hro2, ho2, hs2, hg2, hz2⟩ := made_inQ C K hq hcols hrows hE hfr (Hi := H) ho (by omega) hws hlt (.box [.slice nilSl]) (slow.loop6 (f30_l1 slow K C) fuel) (row := row) cols 0 K H1 (List.replicate cols [.bool false, .slice nilSl]) st (by omega) (by omega) (FrQ.of_fr f1) (hb.fr f1 hb.lt) ho1 (by simp) (fun e he => by rw [List.eq_of_mem_replicate he]; exact ⟨_, _, rfl⟩) (fun _ p e hp => by omega)
    obtain ⟨r, H3, h3, rest⟩ := made_outQ C K hK hq hcols hrows hE m (i + 1) fuel H2 l' (ws ++ [row]) _ (by omega) (by omega) (hfr.trans f2) b2 ho2 (by simp [hwl]) (fun v hv => by
      rcases List.mem_append.1 hv with hv | hv
      · exact hws v hv
      · rw [List.mem_singleton.1 hv]; exact hs2) (fun p v hv r hr => by
        by_cases hp : p < ws.length
        · rw [List.getElem?_append_left hp] at hv
          exact hge p v hv r hr
        · have hp2 : p = ws.length := by have := (List.getElem?_eq_some_iff.1 hv).1; simp at this; omega
          subst hp2
          simp at hv
          subst hv
          exact Nat.le_trans hfr.1 (hg2 r hr)) (fun hst p v hv => by
        by_cases hp : p < ws.length
        · rw [List.getElem?_append_left hp] at hv
          have hX : ∀ r row', (inRow l r ∨ r = q) → H.get r = some row' → ∀ c ∈ row'.cells, ∀ n, c ≠ .int .u32 n := fun r row' hx hg => by
            rcases hx with hx | hx
            · intro c hc n
              rw [Own.cells ho hx hg] at hc
              exact isSlice_not_int (hws c hc) _ _
            · exact hb.cells r row' hx hg
          have hz := hdone (stIn_zero hst) p v hv
          by_cases hd : ∃ r, inRow v r ∧ inRow l r
          · obtain ⟨r, hv1, hl1⟩ := hd
            -- a row of numbers is no row of slices
            obtain ⟨els, ⟨s, rfl, g1, g0, g3⟩, g2, g4⟩ := hz
            have hnil : els = [] := by
              rcases g3 with g3 | ⟨r', o, row', c1, c2, c3, c4⟩
              · exact g3
              · cases els with
                | nil => rfl
                | cons e els =>
                  exfalso
                  have hr' : r' = r := by
                    obtain ⟨s', o', e1, e2⟩ := hv1
                    cases e1
                    rw [c1] at e2
                    cases e2
                    rfl
                  subst hr'
                  obtain ⟨z, hz⟩ : ∃ z, (rowOfE E cols p)[0]? = some z := ⟨_, List.getElem?_eq_getElem (by simp at g2; omega)⟩
                  obtain ⟨b, s', rfl⟩ := (g4 0 e z rfl hz).cell
                  have h0 := c4 0 _ rfl 0 _ rfl
                  have := List.mem_of_getElem? h0
                  rw [Own.cells ho hl1 c2] at this
                  exact hws _ this
            subst hnil
            exact ⟨[], ⟨s, rfl, g1, g0, .inl rfl⟩, g2, fun i e z he => by simp at he⟩
          · exact hz.keepU (X := fun r => inRow l r ∨ r = q) (fun r hr hx => by
              rcases hx with hx | hx
              · exact hd ⟨r, hr, hx⟩
              · have := hge p v hv r hr; omega) hX fun r hr hlt => hro2 r (fun hx => hr (.inl hx)) (fun hx => hr (.inr hx)) hlt
        · have hp2 : p = ws.length := by have := (List.getElem?_eq_some_iff.1 hv).1; simp at this; omega
          subst hp2
          simp at hv
          subst hv
          rw [hwl]; exact hz2 hst)
    refine ⟨r, H3, ?_, rest⟩
    rw [z_loop6]
    simp only [f30_l1, n_lss, decide_eq_true hlt, z_cond, cond_true, h1]
    rw [ho1.arr.len, List.length_replicate, show (SV.int .i64 0) = i64 0 from rfl, h2]
    exact h3
/-- made: rows and columns of entries that a function tells, and an error in its box. -/
theorem made_okQ (K : Nat) (hK : 100000 < K) (d : Nat) {g : Nat} {caps : List SV} {H0 : Heap} {q rows cols : Nat} (hcols : cols < 100000) (hrows : rows < 100000) {E err : Nat → Nat → Int} (hb : Box q H0 0) (hE : EntryQ (runQ wk tab slow K d) g caps H0 q rows cols E err) :
    ∃ r H', runQ wk tab slow K (d + 1) 30 [i64 rows, i64 cols, .fn g [] caps] H0 = some (r, H') ∧ FrQ q H0.size H0 H' ∧ Box q H' (stOut err cols 0 rows 0) ∧ (∃ w, r = .agg [w]) ∧ (stOut err cols 0 rows 0 = 0 → IsMatF H0.size H' r (matOfE E rows cols)) := by
  show ∃ r H', f30 slow K (runQ wk tab slow K d) (i64 rows) (i64 cols) (.fn g [] caps) H0 = _ ∧ _
  exact made_outQ _ K hK hb.lt hcols hrows hE rows 0 K H0 (.slice nilSl) [] 0 (by omega) (by omega) (FrQ.refl _ _ _) hb (Own.nil _ _) rfl (fun w hw => by cases hw) (fun p w hw => by simp at hw) (fun _ p w hw => by simp at hw)
end Go.Sh.Of
