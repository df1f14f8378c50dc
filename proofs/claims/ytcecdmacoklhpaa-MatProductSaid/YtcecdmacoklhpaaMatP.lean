/- Contracts of the package mat: Parse, whole, Size, Add, Mul, Transpose, Same. -/
import Derived.Test.YtcecdmacoklhpaaRingA
import Derived.Test.YtcecdmacoklhpaaNatE
import Derived.Test.YtcecdmacoklhpaaMatLenS
set_option linter.unusedVariables false
set_option linter.unusedSimpArgs false
namespace Go.Sh.Of
open Go

theorem Arr.fq {q : Nat} {H H' : Heap} {v : SV} {cs : List SV} {st : Int} (h : Arr H v cs) (b : Box q H st) (f : FrQ q H.size H H') (hc : ∀ c ∈ cs, ∀ n, c ≠ .int .i64 n) : Arr H' v cs :=
  Arr.keepG h (X := fun r => r = q) (fun c0 hc0 r row e hg c hcr => by
    subst e
    obtain ⟨ver, hv⟩ := b
    rw [hv] at hg
    cases hg
    rw [List.mem_singleton.1 hcr]
    exact fun e => hc c0 hc0 _ e.symm) fun r hr hlt => f.2 r hlt hr
theorem Holds.fq {q : Nat} {H H' : Heap} {p v : SV} {st : Int} (h : Holds H p v) (b : Box q H st) (f : FrQ q H.size H H') (hc : ∀ n, v ≠ .int .i64 n) : Holds H' p v := by
  obtain ⟨r, row, h1, h2, h3, h4⟩ := h
  refine ⟨r, row, h1, ?_, h3, h4⟩
  rw [f.2 r (Heap.get_lt h2) fun e => ?_]
  · exact h2
  · subst e
    obtain ⟨ver, hv⟩ := b
    rw [hv] at h2
    cases h2
    simp at h4
    exact hc _ h4.symm
theorem IsTexts.fq {q : Nat} {H H' : Heap} {v : SV} {T : List (List (List UInt8))} {st : Int} (h : IsTexts H v T) (b : Box q H st) (f : FrQ q H.size H H') : IsTexts H' v T := by
  obtain ⟨ws, h1, h2, h3⟩ := h
  refine ⟨ws, Arr.fq h1 b f fun c hc n e => ?_, h2, fun i w cs hw hcs => Arr.fq (h3 i w cs hw hcs) b f fun c hc n e => ?_⟩
  · obtain ⟨i, hi⟩ := List.getElem?_of_mem hc
    obtain ⟨cs, hcs⟩ : ∃ cs, (T.map strs)[i]? = some cs := ⟨_, List.getElem?_eq_getElem (by have := (List.getElem?_eq_some_iff.1 hi).1; omega)⟩
    exact isSlice_not_int (Arr.isSlice (h3 i c cs hi hcs)) _ _ e
  · rw [List.getElem?_map, Option.map_eq_some_iff] at hcs
    obtain ⟨l, _, rfl⟩ := hcs
    obtain ⟨s, _, rfl⟩ := List.mem_map.1 hc
    cases e
theorem errZ_no {z : Int} (h : ¬ z.natAbs < 2 ^ 4096) : errZ z = 3 := by unfold errZ; rw [if_neg h]
theorem errZ_yes {z : Int} (h : z.natAbs < 2 ^ 4096) : errZ z = 0 := by unfold errZ; rw [if_pos h]
theorem fitZ_yes {z : Int} (h : z.natAbs < 2 ^ 4096) : fitZ z = z := by unfold fitZ; rw [if_pos h]
/-! ### Boxes of matrices -/
theorem z_boxM (w : SV) (H : Heap) : ∃ p H', (∀ k, slow.box (.agg [w]) H k = k p H') ∧ Frame H H' ∧ Holds H' p w ∧ p.good = true :=
  ⟨.ptr (H.size, 0), H.push (newRow 1 [w]), fun k => rfl, Fr.push (Nat.le_refl _) _, ⟨H.size, _, rfl, Heap.get_push_self _ _, by simp [newRow], rfl⟩, rfl⟩
theorem Holds.loadA {H : Heap} {p x : SV} (h : Holds H p x) (k : K1) : slow.load 1 true p H k = k (.agg [x]) := by
  obtain ⟨r, row, rfl, h2, h3, h4⟩ := h
  show (opR (.load 1 true) [.ptr (r, 0)] H).bind k = _
  simp only [opR, Heap.read, h2, beq_ne h3, cond_false, cut_one h4, shaped, Option.bind_some]
theorem Holds.fld {H : Heap} {p x : SV} (h : Holds H p x) (k : K1) : slow.fld 0 p k = k p := by
  obtain ⟨r, row, rfl, h2, h3, h4⟩ := h
  rfl
theorem z_mkfn {f : Nat} {xs : List SV} (hx : xs.all SV.good = true) (k : K1) : slow.mkfn f 0 xs k = k (.fn f [] xs) := by
  show (opP (.mkfn f 0) xs).bind k = _
  simp [opP, hx]
theorem Box.alloc (H : Heap) (st st' : Int) : ∃ H' H'', (∀ k, slow.alloc [.int .i64 st] H k = k (.ptr (H.size, 0)) H') ∧ (∀ k, slow.store 1 (.ptr (H.size, 0)) (.int .i64 st') H' k = k H'') ∧ Frame H H'' ∧ Box H.size H'' st' ∧ H''.size = H.size + 1 := by
  have b : Box H.size (H.push (newRow 1 [.int .i64 st])) st := ⟨0, Heap.get_push_self _ _⟩
  obtain ⟨H2, h1, h2, h3, h4⟩ := b.store st'
  have hs : (H.push (newRow 1 [.int .i64 st])).size = H.size + 1 := by simp [Heap.size_push]
  exact ⟨_, H2, fun k => rfl, h1, ⟨by omega, fun r hr => by rw [h4 r (by omega), Heap.get_push_ne _ _ (by omega)]⟩, h2, by omega⟩
/-! ### Texts -/
def entT (T : List (List (List UInt8))) (i j : Nat) : List UInt8 := (((T[i]?).getD [])[j]?).getD []
def colsT (T : List (List (List UInt8))) : Nat := ((T[0]?).getD []).length
theorem entT_get {T : List (List (List UInt8))} {i j : Nat} {r : List (List UInt8)} {s : List UInt8} (hr : T[i]? = some r) (hs : r[j]? = some s) : entT T i j = s := by simp [entT, hr, hs]
/-- Texts that an int may measure, and the loops' bound. -/
def TextsOk (K : Nat) (T : List (List (List UInt8))) : Prop := ∀ r ∈ T, ∀ s ∈ r, s.length < 9223372036854775808 ∧ s.length < K
def txtErr (T : List (List (List UInt8))) (i j : Nat) : Int := errS (entT T i j)
def txtNum (T : List (List (List UInt8))) (i j : Nat) : Int := numS (entT T i j)
/-- What Parse answers. -/
def parseE (T : List (List (List UInt8))) : Int := if shapedB (T.map List.length) then stOut (txtErr T) (colsT T) 0 T.length 0 else 5
def parseM (T : List (List (List UInt8))) : List (List Int) := if parseE T = 0 then matOfE (txtNum T) T.length (colsT T) else []
theorem shapedT {T : List (List (List UInt8))} (h : shapedB (T.map List.length) = true) : T = [] ∨ (T.length ≤ 16 ∧ ∀ r ∈ T, 1 ≤ r.length ∧ r.length ≤ 16 ∧ r.length = colsT T) := by
  unfold shapedB at h
  rw [List.all_eq_true] at h
  cases T with
  | nil => left; rfl
  | cons r0 T =>
    right
    have hc : colsT (r0 :: T) = r0.length := rfl
    simp only [List.length_map, List.map_cons, List.getElem?_cons_zero, Bool.and_eq_true, decide_eq_true_eq, Option.some.injEq] at h
    refine ⟨by simpa using (h r0.length (by simp)).1, fun r hr => ?_⟩
    have := h r.length (by
      rcases List.mem_cons.1 hr with rfl | hr
      · simp
      · exact List.mem_cons_of_mem _ (List.mem_map_of_mem hr))
    rw [hc]
    exact ⟨this.2.1, this.2.2.1, this.2.2.2⟩
theorem parseM_good (T : List (List (List UInt8))) : Good (parseM T) := by
  unfold parseM
  split
  · rename_i h
    unfold parseE at h
    split at h
    · rename_i hs
      rcases shapedT hs with rfl | ⟨h1, h2⟩
      · exact Good.nil
      · have hc : 0 < T.length → 0 < colsT T ∧ colsT T ≤ 16 := fun hp => by
          have h0 : T[0]? = some T[0] := List.getElem?_eq_getElem hp
          have := h2 T[0] (List.getElem_mem hp)
          omega
        by_cases hp : 0 < T.length
        · exact Good.ofE h1 (hc hp).2 (fun _ => (hc hp).1) fun i j _ _ => numS_lt _
        · have : T = [] := List.eq_nil_of_length_eq_zero (by omega)
          subst this
          exact Good.nil
    · cases h
  · exact Good.nil
theorem mparse_entry (K : Nat) (hK : 1000000 < K) (d : Nat) {H0 : Heap} {q : Nat} {p v : SV} {T : List (List (List UInt8))} {st0 : Int} (hb : Box q H0 st0) (hp : Holds H0 p v) (hv : IsTexts H0 v T) (hl : TextsOk K T) (hcol : ∀ r ∈ T, r.length = colsT T) :
    EntryQ (runQ wk tab slow K (d + 6)) 31 [p, .ptr (q, 0)] H0 q T.length (colsT T) (txtNum T) (txtErr T) := fun i j H st hi hj hf hbH => by
  obtain ⟨r, hr⟩ : ∃ r, T[i]? = some r := ⟨_, List.getElem?_eq_getElem hi⟩
  have hrl := hcol r (List.mem_of_getElem? hr)
  obtain ⟨s, hs⟩ : ∃ s, r[j]? = some s := ⟨_, List.getElem?_eq_getElem (by omega)⟩
  have hnv : ∀ n, v ≠ .int .i64 n := fun n => by
    obtain ⟨ws, h1, _⟩ := hv
    exact isSlice_not_int (Arr.isSlice h1) _ n
  have hpH := Holds.fq hp hb hf hnv
  have hvH : IsTexts H v T := IsTexts.fq hv hb hf
  obtain ⟨w, hw, ha⟩ := hvH.load (i := i) (cs := strs r) (by simp [hr])
  obtain ⟨z, H1, h1, f1, hz⟩ := zparse_ok K hK d H (s := s) (hl r (List.mem_of_getElem? hr) s (List.mem_of_getElem? hs)).1 (hl r (List.mem_of_getElem? hr) s (List.mem_of_getElem? hs)).2
  have e1 : txtErr T i j = errS s := by unfold txtErr; rw [entT_get hr hs]
  have e2 : txtNum T i j = numS s := by unfold txtNum; rw [entT_get hr hs]
  obtain ⟨sl, rfl, h2, h3⟩ := hz
  have hz : IsInt H1 (.agg [.bool (decide (numS s < 0)), sl]) (numS s) := ⟨sl, rfl, h2, h3⟩
  have hb1 := hbH.fr f1 hbH.lt
  rw [e1, e2]
  show ∃ r H', f31 slow K (runQ wk tab slow K (d + 5)) (i64 i) (i64 j) p (.ptr (q, 0)) H = _ ∧ _
  simp only [f31, hpH.load, hw, ha.load (strs_get hs), h1, z_call, z_ext0, z_ext1, z_bst2, hb1.holds.load, z_eql]
  by_cases h0 : st = 0
  · subst h0
    obtain ⟨H2, s2, b2, sz2, r2⟩ := hb1.store (errS s)
    refine ⟨.agg [.bool (decide (numS s < 0)), sl], H2, ?_, ⟨by rw [sz2]; exact f1.size, fun r hr hn => by rw [r2 r hn, f1.rows r hr]⟩, by rw [if_pos rfl]; exact b2, numS s, hz.fq hb1 ⟨by omega, fun r hr hn => r2 r hn⟩, fun _ _ => rfl⟩
    simp only [beq_self_eq_true, z_cond, cond_true, s2, f31_j1, z_lload2, z_bst2, z_resc2]
  · have hne : (st == 0) = false := beq_eq_false_iff_ne.2 h0
    refine ⟨.agg [.bool (decide (numS s < 0)), sl], H1, ?_, FrQ.of_fr f1, by rw [if_neg h0]; exact hb1, numS s, hz, fun h => absurd h h0⟩
    simp only [hne, z_cond, cond_false, f31_j1, z_lload2, z_bst2, z_resc2]
theorem mparse_ok (K : Nat) (hK : 1000000 < K) (d : Nat) (H : Heap) {v : SV} {T : List (List (List UInt8))} (hv : IsTexts H v T) (hl : TextsOk K T) (hrl : T.length < 100000) :
    ∃ r H', runQ wk tab slow K (d + 8) 8 [v] H = some (.tuple [r, .int .i64 (parseE T)], H') ∧ Frame H H' ∧ IsMatF H.size H' r (parseM T) := by
  show ∃ r H', f8 slow K (runQ wk tab slow K (d + 7)) v H = _ ∧ _
  obtain ⟨p, H1, hb, f1, hp, hpg⟩ := z_boxH hv.flat H
  have hv1 := hv.fr f1
  obtain ⟨ws, hws, hwl, hwr⟩ := hv1
  have hwl' : ws.length = T.length := by simpa using hwl
  have hwr' : ∀ (i : Nat) w r, ws[i]? = some w → T[i]? = some r → isSlice w ∧ slen w = r.length := fun i w r hw hr => by have := Arr.slen (hwr i w (strs r) hw (by simp [hr])); simpa using this
  have hsl : ∀ w ∈ ws, isSlice w := fun w hw => by
    obtain ⟨i, hi⟩ := List.getElem?_of_mem hw
    obtain ⟨r, hr⟩ : ∃ r, T[i]? = some r := ⟨_, List.getElem?_eq_getElem (by have := (List.getElem?_eq_some_iff.1 hi).1; omega)⟩
    exact (hwr' i w r hi hr).1
  obtain ⟨u, H2, h2, f2, a2⟩ := lengthsS_ok K (d + 6) H1 hws hsl (by omega) (by omega)
  have hmap : ws.map slen = T.map List.length := slices_map (by simp [hwl']) fun i w n hw hn => by
    rw [List.getElem?_map, Option.map_eq_some_iff] at hn
    obtain ⟨r, hr, rfl⟩ := hn
    exact (hwr' i w r hw hr).2
  rw [hmap] at a2
  have h3 := shaped_ok K (d + 6) H2 a2 (by simp; omega) (by omega)
  have e12 := Frame.trans f1 f2
  have hp2 := hp.fr f2
  have hws2 := hws.fr f2
  have hlen : ∀ k, slow.len v k = k (i64 T.length) := fun k => by rw [hws2.len, hwl']
  simp only [f8, hb, hp.load, h2, z_call, h3, z_not, z_cond]
  cases hsh : shapedB (T.map List.length) with
  | false =>
    have e1 : parseE T = 5 := by unfold parseE; rw [hsh]; rfl
    have e2 : parseM T = [] := by unfold parseM; rw [e1]; rfl
    rw [e1, e2]
    simp only [Bool.not_false, cond_true, z_build0, z_bst1, z_resc1]
    exact ⟨_, H2, rfl, e12, IsMatF.nil _ H2⟩
  | true =>
    have e1 : parseE T = stOut (txtErr T) (colsT T) 0 T.length 0 := by unfold parseE; rw [hsh]; rfl
    simp only [Bool.not_true, cond_false, hp2.load, hlen, z_eql, z_cond]
    by_cases h0 : T = []
    · subst h0
      have hz : (((([] : List (List (List UInt8))).length : Nat) : Int) == 0) = true := rfl
      simp only [hz, cond_true, z_build0, z_bst1, z_resc1]
      exact ⟨_, H2, rfl, e12, IsMatF.nil _ H2⟩
    · have hpos := List.length_pos_iff.2 h0
      have hz : ((T.length : Int) == 0) = false := beq_eq_false_iff_ne.2 (by omega)
      obtain ⟨g1, g2⟩ := (shapedT hsh).resolve_left h0
      have hcol : ∀ r ∈ T, r.length = colsT T := fun r hr => (g2 r hr).2.2
      obtain ⟨r0, hr0⟩ : ∃ r, T[0]? = some r := ⟨_, List.getElem?_eq_getElem hpos⟩
      obtain ⟨w0, hw0⟩ : ∃ w, ws[0]? = some w := ⟨_, List.getElem?_eq_getElem (by omega)⟩
      have hc0 : colsT T = r0.length := by simp [colsT, hr0]
      have hl0 : ∀ k, slow.len w0 k = k (i64 (colsT T)) := fun k => by
        rw [len_slen (hwr' 0 w0 r0 hw0 hr0).1, (hwr' 0 w0 r0 hw0 hr0).2, hc0]
      obtain ⟨H3, H4, a3, s3, f3, b3, sz3⟩ := Box.alloc H2 0 0
      have hp3 := hp2.fr f3
      have hws3 := hws2.fr f3
      have hlen3 : ∀ k, slow.len v k = k (i64 T.length) := hlen
      have hld : ∀ k, slow.idx 1 v (.int .i64 0) (fun p => slow.load 1 false p H4 k) = k w0 := fun k => hws3.load (i := 0) hw0 .i64 k
      have hc16 : colsT T ≤ 16 := by rw [hc0]; exact (g2 r0 (List.mem_of_getElem? hr0)).2.1
      obtain ⟨q, H5, h4, f5, b5, ⟨mw, hmw⟩, hm⟩ := made_okQ K (by omega) (d + 6) (rows := T.length) (cols := colsT T) (by omega) (by omega) b3 (mparse_entry K hK d b3 hp3 (hv.fr (Frame.trans e12 f3)) hl hcol)
      subst hmw
      have e45 : Frame H2 H5 := ⟨Nat.le_trans f3.size f5.1, fun r hr => by rw [f5.2 r (by omega) (by omega), f3.rows r hr]⟩
      have fin := Frame.trans e12 e45
      have hgood : (SV.ptr (H2.size, 0)).good = true := rfl
      have hall : [p, SV.ptr (H2.size, 0)].all SV.good = true := by simp [hpg, hgood]
      simp only [hz, cond_false, a3, s3, hp3.load, hlen3, hld, hl0, z_mkfn hall, h4, z_call, z_bst1, b5.holds.load, z_neq]
      rw [← e1]
      by_cases hst : parseE T = 0
      · have e2 : parseM T = matOfE (txtNum T) T.length (colsT T) := if_pos hst
        have hm' := hm (by rw [← e1]; exact hst)
        rw [hst, e2]
        simp only [bne_self_eq_false, z_cond, cond_false, z_lload1, z_bst1, z_resc1]
        exact ⟨_, H5, rfl, fin, hm'.mono (by have := e12.size; have := f3.size; omega)⟩
      · have e2 : parseM T = [] := if_neg hst
        have hne : (parseE T != 0) = true := bne_iff_ne.2 hst
        rw [e2]
        simp only [hne, z_cond, cond_true, z_build0, z_bst1, z_resc1, z_rest_int]
        exact ⟨_, H5, rfl, fin, IsMatF.nil _ H5⟩
/-! ### whole -/
/-- What a function that tells entries and errors does, from a heap on. -/
def EntryE (C : CallC) (g : Nat) (caps : List SV) (H0 : Heap) (rows cols : Nat) (E err : Nat → Nat → Int) : Prop :=
  ∀ i j H, i < rows → j < cols → Frame H0 H → ∃ r H', C g ([] ++ ([i64 i, i64 j] ++ caps)) H = some (.tuple [r, .int .i64 (err i j)], H') ∧ Frame H H' ∧ ∃ z, IsInt H' r z ∧ (err i j = 0 → z = E i j)
theorem whole_ok (K : Nat) (hK : 100000 < K) (d : Nat) (H : Heap) {g : Nat} {caps : List SV} {rows cols : Nat} (hcols : cols < 100000) (hrows : rows < 100000) {E err : Nat → Nat → Int} (hE : EntryE (runQ wk tab slow K d) g caps H rows cols E err) :
    ∃ r H', runQ wk tab slow K (d + 3) 44 [i64 rows, i64 cols, .fn g [] caps] H = some (.tuple [r, .int .i64 (stOut err cols 0 rows 0)], H') ∧ Frame H H' ∧ IsMatF H.size H' r (if stOut err cols 0 rows 0 = 0 then matOfE E rows cols else []) := by
  show ∃ r H', f44 slow K (runQ wk tab slow K (d + 2)) (i64 rows) (i64 cols) (.fn g [] caps) H = _ ∧ _
  obtain ⟨p, H1, hb, f1, hp, hpg⟩ := z_boxH (x := .fn g [] caps) rfl H
  obtain ⟨H2, H3, a3, s3, f3, b3, sz3⟩ := Box.alloc H1 0 0
  have hp3 := hp.fr f3
  have e13 := Frame.trans f1 f3
  have hent : EntryQ (runQ wk tab slow K (d + 1)) 60 [.ptr (H1.size, 0), p] H3 H1.size rows cols E err := fun i j H' st hi hj hf hbH => by
    show ∃ r H'', f60 slow K (runQ wk tab slow K d) (i64 i) (i64 j) (.ptr (H1.size, 0)) p H' = _ ∧ _
    have hpH := Holds.fq hp3 b3 hf (fun n e => by cases e)
    simp only [f60, hbH.holds.load, z_neq]
    by_cases h0 : st = 0
    · subst h0
      obtain ⟨r, H4, h4, f4, z, hz, hze⟩ := hE i j H' hi hj ⟨Nat.le_trans e13.size hf.1, fun r hr => by
        rw [hf.2 r (by have := e13.size; omega) (by have := f1.size; omega), e13.rows r hr]⟩
      obtain ⟨sl, rfl, hsl, hsf⟩ := hz
      have hz : IsInt H4 (.agg [.bool (decide (z < 0)), sl]) z := ⟨sl, rfl, hsl, hsf⟩
      have hb4 := hbH.fr f4 hbH.lt
      obtain ⟨H5, s5, b5, sz5, r5⟩ := hb4.store (err i j)
      refine ⟨.agg [.bool (decide (z < 0)), sl], H5, ?_, ⟨by rw [sz5]; exact f4.size, fun r hr hn => by rw [r5 r hn, f4.rows r hr]⟩, by rw [if_pos rfl]; exact b5, z, hz.fq hb4 ⟨by omega, fun r hr hn => r5 r hn⟩, fun _ h => hze h⟩
      simp only [bne_self_eq_false, z_cond, cond_false, hpH.load, z_callv, h4, z_call, z_ext0, z_ext1, z_bst2, s5, z_lload2, z_resc2]
    · have hne : (st != 0) = true := bne_iff_ne.2 h0
      refine ⟨.agg [.bool false, .slice nilSl], H', ?_, FrQ.refl _ _ _, by rw [if_neg h0]; exact hbH, 0, IsInt.zero H', fun h => absurd h h0⟩
      simp only [hne, z_cond, cond_true, z_build0, z_bst2, z_resc2]
  obtain ⟨q, H5, h4, f5, b5, ⟨mw, hmw⟩, hm⟩ := made_okQ K hK (d + 1) (rows := rows) (cols := cols) hcols hrows b3 hent
  subst hmw
  have e45 : Frame H1 H5 := ⟨Nat.le_trans f3.size f5.1, fun r hr => by rw [f5.2 r (by omega) (by omega), f3.rows r hr]⟩
  have fin := Frame.trans f1 e45
  have hgood : (SV.ptr (H1.size, 0)).good = true := rfl
  have hall : [SV.ptr (H1.size, 0), p].all SV.good = true := by simp [hpg, hgood]
  simp only [f44, hb, a3, s3, z_mkfn hall, h4, z_call, z_bst1, b5.holds.load, z_neq]
  by_cases hst : stOut err cols 0 rows 0 = 0
  · have hm' := hm hst
    rw [if_pos hst, hst]
    simp only [bne_self_eq_false, z_cond, cond_false, z_lload1, z_bst1, z_resc1]
    exact ⟨_, H5, rfl, fin, hm'.mono e13.size⟩
  · have hne : (stOut err cols 0 rows 0 != 0) = true := bne_iff_ne.2 hst
    rw [if_neg hst]
    simp only [hne, z_cond, cond_true, z_build0, z_bst1, z_resc1, z_rest_int]
    exact ⟨_, H5, rfl, fin, IsMatF.nil _ H5⟩
/-! ### Size -/
theorem msize_ok (K : Nat) (d : Nat) (H : Heap) {v : SV} {A : List (List Int)} (hv : IsMat H v A) : runQ wk tab slow K (d + 1) 17 [v] H = some (.tuple [i64 A.length, i64 (colsOf A)], H) := by
  obtain ⟨w, rfl, hr⟩ := hv
  show f17 slow K (runQ wk tab slow K d) (.agg [w]) H = _
  simp only [f17, z_bbox, z_lfld, z_lld0, hr.len, z_eql, z_cond]
  by_cases h0 : A = []
  · subst h0
    rfl
  · have hz : ((A.length : Int) == 0) = false := beq_eq_false_iff_ne.2 (by have := List.length_pos_iff.2 h0; omega)
    obtain ⟨r0, hr0⟩ : ∃ r, A[0]? = some r := ⟨_, List.getElem?_eq_getElem (List.length_pos_iff.2 h0)⟩
    obtain ⟨u, hu, hz0⟩ := hr.load (i := 0) hr0
    have hu' : ∀ k, slow.idx 1 w (.int .i64 0) (fun p => slow.load 1 false p H k) = k u := fun k => hu .i64 k
    have e : colsOf A = r0.length := by simp [colsOf, hr0]
    simp only [hz, cond_false, hu', hz0.len, z_rest_int, e]
/-- A matrix in a box: an entry. -/
theorem IsRows.entry {H : Heap} {w : SV} {A : List (List Int)} (h : IsRows H w A) (hg : Good A) {i j : Nat} (hi : i < A.length) (hj : j < colsOf A) : ∃ u x y, (∀ k, slow.idx 1 w (i64 i) (fun p => slow.load 1 false p H k) = k u) ∧ (∀ k, slow.idx 2 u (i64 j) (fun p => slow.load 2 true p H k) = k (.agg [x, y])) ∧ IsInt H (.agg [x, y]) (ent A i j) := by
  obtain ⟨r, h1, h2, _⟩ := hg.at hi hj
  obtain ⟨u, hu, hz⟩ := h.load h1
  obtain ⟨x, y, hxy, hint⟩ := hz.load h2
  exact ⟨u, x, y, fun k => hu .i64 k, fun k => hxy .i64 k, hint⟩
/-! ### Transpose -/
theorem mtrans_ok (K : Nat) (hK : 100000 < K) (d : Nat) (H : Heap) {v : SV} {A : List (List Int)} (hv : IsMat H v A) (hg : Good A) : ∃ r H', runQ wk tab slow K (d + 3) 15 [v] H = some (r, H') ∧ Frame H H' ∧ IsMatF H.size H' r (trM A) := by
  have hsz := fun H' (f : Frame H H') => msize_ok K (d + 1) H' (hv.fr f)
  obtain ⟨w, rfl, hr⟩ := hv
  show ∃ r H', f15 slow K (runQ wk tab slow K (d + 2)) (.agg [w]) H = _ ∧ _
  obtain ⟨p, H1, hb, f1, hp, hpg⟩ := z_boxM w H
  have hr1 := hr.fr f1
  have hrows := hg.rows
  have hcols := hg.c16
  have hent : EntryOk (runQ wk tab slow K (d + 1)) 38 [p] H1 (colsOf A) A.length (fun i j => ent A j i) := fun i j H' hi hj hf => by
    obtain ⟨u, x, y, h1, h2, h3⟩ := (hr1.fr hf).entry hg hj hi
    show ∃ r H'', f38 slow K (runQ wk tab slow K d) (i64 i) (i64 j) p H' = _ ∧ _
    refine ⟨.agg [x, y], H', ?_, Fr.refl _ _, h3⟩
    simp only [f38, Holds.fld (hp.fr hf), (hp.fr hf).load, h1, h2, z_bst2, z_resc2]
  obtain ⟨r, H2, h2, f2, hm⟩ := made_ok K hK (d + 1) (H0 := H1) (rows := colsOf A) (cols := A.length) (by omega) (by omega) hent
  obtain ⟨mw, rfl, hmr⟩ := hm
  refine ⟨_, H2, ?_, Frame.trans f1 f2, IsMatF.mono ⟨mw, rfl, hmr⟩ f1.size⟩
  simp only [f15, hb, Holds.loadA hp, hsz H1 f1, z_call, z_ext0, z_ext1, z_mkfn0 _ hpg, h2, z_bst1, z_resc1]
/-! ### Add -/
theorem mmul_loop (K : Nat) (hK : 200000 < K) (d : Nat) {H0 : Heap} {pa pb wa wb : SV} {A B : List (List Int)} (hpa : Holds H0 pa wa) (hpb : Holds H0 pb wb) (hwa : IsRows H0 wa A) (hwb : IsRows H0 wb B) (ha : Good A) (hb : Good B) (hab : colsOf A = B.length) {i j : Nat} (hi : i < A.length) (hj : j < colsOf B) (z8 : List SV) (hz8 : ∃ a b, z8 = [a, b]) : ∀ (m x fuel : Nat) (H : Heap) (s : Int) (b sl : SV), x + m = colsOf A → m < fuel → Frame H0 H → IsInt H (.agg [b, sl]) s → s.natAbs < 2 ^ 4096 →
    ∃ r H', slow.loop8 (f45_l1 slow K (runQ wk tab slow K (d + 5))) fuel (i64 i) (i64 j) pa pb (.box z8) (.box [b, sl]) (i64 (colsOf A)) (i64 x) H = some (.tuple [r, .int .i64 (errFrom (ent A i) (fun y => ent B y j) x m s)], H') ∧ Frame H H' ∧ ∃ z, IsInt H' r z ∧ (errFrom (ent A i) (fun y => ent B y j) x m s = 0 → z = dotFrom (ent A i) (fun y => ent B y j) x m s)
  | 0, x, fuel, H, s, b, sl, hxm, hf, hfr, hs, hlt => by
    obtain ⟨fuel, rfl⟩ : ∃ m, fuel = m + 1 := ⟨fuel - 1, by omega⟩
    obtain ⟨z0, z1, rfl⟩ := hz8
    have hx : ¬ x < colsOf A := by omega
    refine ⟨.agg [b, sl], H, ?_, Fr.refl _ _, s, hs, fun _ => rfl⟩
    rw [z_loop8]
    simp only [f45_l1, n_lss, decide_eq_false hx, z_cond, cond_false, z_lload2, z_bst2, z_resc2]
    rfl
  | m + 1, x, fuel, H, s, b, sl, hxm, hf, hfr, hs, hlt => by
    obtain ⟨fuel, rfl⟩ : ∃ m, fuel = m + 1 := ⟨fuel - 1, by omega⟩
    obtain ⟨z0, z1, rfl⟩ := hz8
    have hx : x < colsOf A := by omega
    have hc := ha.c16
    obtain ⟨u, x1, y1, g1, g2, g3⟩ := (hwa.fr hfr).entry ha hi hx
    obtain ⟨u', x1', y1', g1', g2', g3'⟩ := (hwb.fr hfr).entry hb (i := x) (j := j) (by omega) hj
    obtain ⟨_, _, _, l1⟩ := ha.at hi hx
    obtain ⟨_, _, _, l2⟩ := hb.at (i := x) (j := j) (by omega) hj
    obtain ⟨p, H1, h1, f1, hp⟩ := zmul_ok K hK d H g3 g3' l1 l2
    obtain ⟨slp, rfl, hpl, hpf⟩ := hp
    have hp : IsInt H1 (.agg [.bool (decide (fitZ (ent A i x * ent B x j) < 0)), slp]) (fitZ (ent A i x * ent B x j)) := ⟨slp, rfl, hpl, hpf⟩
    have hfit : (fitZ (ent A i x * ent B x j)).natAbs < 2 ^ 4096 := by
      unfold fitZ
      split
      · assumption
      · exact Nat.two_pow_pos 4096
    rw [z_loop8]
    simp only [f45_l1, n_lss, decide_eq_true hx, z_cond, cond_true, Holds.fld (hpa.fr hfr), (hpa.fr hfr).load, g1, g2, Holds.fld (hpb.fr hfr), (hpb.fr hfr).load, g1', g2', h1, z_call, z_ext0, z_ext1, z_bst2, z_neq]
    by_cases hA : (ent A i x * ent B x j).natAbs < 2 ^ 4096
    · have e1 : errZ (ent A i x * ent B x j) = 0 := if_pos hA
      have e2 : fitZ (ent A i x * ent B x j) = ent A i x * ent B x j := if_pos hA
      rw [e1]
      rw [e2] at hp hfit
      obtain ⟨t, H2, h2, f2, ht⟩ := zadd_ok K (by omega) d H1 (hs.fr f1) hp hlt hfit
      obtain ⟨slt, rfl, htl, htf⟩ := ht
      rw [e2]
      simp only [bne_self_eq_false, cond_false, z_lload2, h2, z_call, z_ext0, z_ext1, z_bst2, z_neq, z_cond]
      by_cases hS : (s + ent A i x * ent B x j).natAbs < 2 ^ 4096
      · have e3 : errZ (s + ent A i x * ent B x j) = 0 := if_pos hS
        have e4 : fitZ (s + ent A i x * ent B x j) = s + ent A i x * ent B x j := if_pos hS
        have e5 : errFrom (ent A i) (fun y => ent B y j) x (m + 1) s = errFrom (ent A i) (fun y => ent B y j) (x + 1) m (s + ent A i x * ent B x j) := by
          conv => lhs; unfold errFrom
          rw [if_pos hA, if_pos hS]
        have ht : IsInt H2 (.agg [.bool (decide (fitZ (s + ent A i x * ent B x j) < 0)), slt]) (fitZ (s + ent A i x * ent B x j)) := ⟨slt, rfl, htl, htf⟩
        rw [e4] at ht
        obtain ⟨r, H3, h3, f3, hr⟩ := mmul_loop K hK d hpa hpb hwa hwb ha hb hab hi hj [z0, z1] ⟨_, _, rfl⟩ m (x + 1) fuel H2 (s + ent A i x * ent B x j) _ slt (by omega) (by omega) (Frame.trans hfr (Frame.trans f1 f2)) ht hS
        refine ⟨r, H3, ?_, Frame.trans (Frame.trans f1 f2) f3, ?_⟩
        · rw [e3, e4, e5]
          simp only [bne_self_eq_false, cond_false]
          rw [show (SV.int .i64 1) = i64 1 from rfl, n_addi _ (by omega)]
          exact h3
        · rw [e5]; exact hr
      · have e3 : errZ (s + ent A i x * ent B x j) = 3 := if_neg hS
        have e5 : errFrom (ent A i) (fun y => ent B y j) x (m + 1) s = 3 := by
          unfold errFrom
          rw [if_pos hA, if_neg hS]
        rw [e3, e5]
        refine ⟨_, H2, rfl, Frame.trans f1 f2, _, ⟨slt, rfl, htl, htf⟩, fun h => by cases h⟩
    · have e1 : errZ (ent A i x * ent B x j) = 3 := if_neg hA
      have e5 : errFrom (ent A i) (fun y => ent B y j) x (m + 1) s = 3 := by
        unfold errFrom
        rw [if_neg hA]
      rw [e1, e5]
      exact ⟨.agg [b, sl], H1, rfl, f1, s, hs.fr f1, fun h => by cases h⟩
theorem mmul_ok (K : Nat) (hK : 200000 < K) (d : Nat) (H : Heap) {v v' : SV} {A B : List (List Int)} (hv : IsMat H v A) (hv' : IsMat H v' B) (ha : Good A) (hb : Good B) : ∃ r H', runQ wk tab slow K (d + 10) 19 [v, v'] H = some (.tuple [r, .int .i64 (mulE A B)], H') ∧ Frame H H' ∧ IsMatF H.size H' r (if mulE A B = 0 then mulM A B else []) := by
  have hsz := fun H' (f : Frame H H') => msize_ok K (d + 8) H' (hv.fr f)
  have hsz' := fun H' (f : Frame H H') => msize_ok K (d + 8) H' (hv'.fr f)
  obtain ⟨w, rfl, hr⟩ := hv
  obtain ⟨w', rfl, hr'⟩ := hv'
  show ∃ r H', f19 slow K (runQ wk tab slow K (d + 9)) (.agg [w]) (.agg [w']) H = _ ∧ _
  obtain ⟨p, H1, hb1, f1, hp, hpg⟩ := z_boxM w H
  obtain ⟨p', H2, hb2, f2, hp', hpg'⟩ := z_boxM w' H1
  have e12 := Frame.trans f1 f2
  have hp2 := hp.fr f2
  obtain ⟨H3, H4, a3, s3, f3, b3, sz3⟩ := Box.alloc H2 0 (colsOf A)
  have e14 := Frame.trans e12 f3
  have hp4 := hp2.fr f3
  have hp4' := hp'.fr f3
  have hr4 := hr.fr e14
  have hr4' := hr'.fr e14
  have hrows := ha.rows
  have hcols := ha.c16
  have hcolsB := hb.c16
  have hkb := b3.holds
  simp only [f19, hb1, hb2, Holds.loadA hp2, hsz H2 e12, z_call, z_ext0, z_ext1, a3, s3, Holds.loadA hp4', hsz' H4 e14, hkb.load, n_neq, z_cond]
  by_cases h1 : colsOf A = B.length
  · have hn1 : ¬ colsOf A ≠ B.length := fun h => h h1
    rw [decide_eq_false hn1, cond_false]
    have e : mulE A B = stOut (dotErr A B) (colsOf B) 0 A.length 0 := if_pos h1
    have hent : EntryE (runQ wk tab slow K (d + 6)) 45 [.ptr (H2.size, 0), p, p'] H4 A.length (colsOf B) (dotE A B) (dotErr A B) := fun i j H' hi hj hf => by
      obtain ⟨r, H5, h5, f5, hr5⟩ := mmul_loop K hK d (hp4.fr hf) (hp4'.fr hf) (hr4.fr hf) (hr4'.fr hf) ha hb h1 hi hj [.bool false, .slice nilSl] ⟨_, _, rfl⟩ (colsOf A) 0 K H' 0 (.bool false) (.slice nilSl) (by omega) (by omega) (Fr.refl _ _) (IsInt.zero H') (Nat.two_pow_pos 4096)
      show ∃ r H'', f45 slow K (runQ wk tab slow K (d + 5)) (i64 i) (i64 j) (.ptr (H2.size, 0)) p p' H' = _ ∧ _
      refine ⟨r, H5, ?_, f5, hr5⟩
      simp only [f45, z_build0, z_bst2, (hkb.fr hf).load]
      exact h5
    obtain ⟨r, H6, h6, f6, hm⟩ := whole_ok K (by omega) (d + 6) H4 (rows := A.length) (cols := colsOf B) (by omega) (by omega) hent
    have hall : [SV.ptr (H2.size, 0), p, p'].all SV.good = true := by simp [hpg, hpg']; rfl
    rw [← e] at h6 hm
    obtain ⟨mw, hmw⟩ : ∃ mw, r = .agg [mw] := by obtain ⟨mw, e, _⟩ := hm; exact ⟨mw, e⟩
    subst hmw
    refine ⟨_, H6, ?_, Frame.trans e14 f6, hm.mono e14.size⟩
    simp only [z_mkfn hall, h6, z_call, z_ext0, z_ext1, z_bst1, z_resc1, z_rest_int]
  · have e : mulE A B = 5 := if_neg h1
    rw [decide_eq_true h1, cond_true, e]
    simp only [z_build0, z_bst1, z_resc1]
    exact ⟨_, H4, rfl, e14, IsMatF.nil _ H4⟩
/-! ### Same -/
theorem cmpZ_zero {a b : Int} : cmpZ a b = 0 ↔ a = b := by
  unfold cmpZ
  split
  · omega
  · split <;> omega
theorem msame_in (K : Nat) (hK : 1000 < K) (d : Nat) (H : Heap) {w w' : SV} {A B : List (List Int)} (hw : IsRows H w A) (hw' : IsRows H w' B) (ha : Good A) (hb : Good B) (h1 : A.length = B.length) (h2 : colsOf A = colsOf B) {i : Nat} (hi : i < A.length) (k21 : SV → SV → SV → SV → SV → Heap → Rs) : ∀ (m j fuel : Nat), j + m = colsOf A → m < fuel →
    ((∀ y, j ≤ y → y < colsOf A → ent A i y = ent B i y) ∧ slow.loop8 (f10_l5 slow K (runQ wk tab slow K (d + 2)) k21) fuel (.box [w]) (.box [w']) (i64 (colsOf A)) (i64 i) (i64 A.length) (i64 i) (i64 (colsOf A)) (i64 j) H = k21 (.box [w]) (.box [w']) (i64 (colsOf A)) (i64 A.length) (i64 (i + 1)) H) ∨ ((∃ y, y < colsOf A ∧ ent A i y ≠ ent B i y) ∧ slow.loop8 (f10_l5 slow K (runQ wk tab slow K (d + 2)) k21) fuel (.box [w]) (.box [w']) (i64 (colsOf A)) (i64 i) (i64 A.length) (i64 i) (i64 (colsOf A)) (i64 j) H = some (.bool false, H))
  | 0, j, fuel, hjm, hf => by
    obtain ⟨fuel, rfl⟩ : ∃ m, fuel = m + 1 := ⟨fuel - 1, by omega⟩
    have hj : ¬ j < colsOf A := by omega
    have hr := ha.rows
    refine .inl ⟨fun y h1 h2 => by omega, ?_⟩
    rw [z_loop8]
    simp only [f10_l5, n_lss, decide_eq_false hj, z_cond, cond_false]
    rw [show (SV.int .i64 1) = i64 1 from rfl, n_addi _ (by omega)]
  | m + 1, j, fuel, hjm, hf => by
    obtain ⟨fuel, rfl⟩ : ∃ m, fuel = m + 1 := ⟨fuel - 1, by omega⟩
    have hj : j < colsOf A := by omega
    have hc := ha.c16
    obtain ⟨u, x, y, g1, g2, g3⟩ := hw.entry ha hi hj
    obtain ⟨u', x', y', g1', g2', g3'⟩ := hw'.entry hb (i := i) (j := j) (by omega) (by omega)
    obtain ⟨_, _, _, l1⟩ := ha.at hi hj
    obtain ⟨_, _, _, l2⟩ := hb.at (i := i) (j := j) (by omega) (by omega)
    have hcmp := zcmp_ok K hK d H g3 g3' l1 l2
    rw [z_loop8]
    simp only [f10_l5, n_lss, decide_eq_true hj, z_cond, cond_true, z_lfld, z_lld0, g1, g2, g1', g2', hcmp, z_call, z_neq]
    by_cases he : ent A i j = ent B i j
    · have h0 := cmpZ_zero.2 he
      rw [h0]
      simp only [bne_self_eq_false, cond_false]
      rw [show (SV.int .i64 1) = i64 1 from rfl, n_addi _ (by omega)]
      rcases msame_in K hK d H hw hw' ha hb h1 h2 hi k21 m (j + 1) fuel (by omega) (by omega) with ⟨q1, q2⟩ | ⟨q1, q2⟩
      · refine .inl ⟨fun y hy1 hy2 => ?_, q2⟩
        by_cases hyj : y = j
        · rw [hyj]; exact he
        · exact q1 y (by omega) hy2
      · exact .inr ⟨q1, q2⟩
    · have hne : (cmpZ (ent A i j) (ent B i j) != 0) = true := bne_iff_ne.2 fun h => he (cmpZ_zero.1 h)
      rw [hne]
      exact .inr ⟨⟨j, hj, he⟩, rfl⟩
theorem msame_out (K : Nat) (hK : 1000 < K) (d : Nat) (H : Heap) {w w' : SV} {A B : List (List Int)} (hw : IsRows H w A) (hw' : IsRows H w' B) (ha : Good A) (hb : Good B) (h1 : A.length = B.length) (h2 : colsOf A = colsOf B) : ∀ (m i fuel : Nat), i + m = A.length → m < fuel →
    ((∀ x y, i ≤ x → x < A.length → y < colsOf A → ent A x y = ent B x y) ∧ slow.loop5 (f10_l3 slow K (runQ wk tab slow K (d + 2))) fuel (.box [w]) (.box [w']) (i64 (colsOf A)) (i64 A.length) (i64 i) H = some (.bool true, H)) ∨ ((∃ x y, x < A.length ∧ y < colsOf A ∧ ent A x y ≠ ent B x y) ∧ slow.loop5 (f10_l3 slow K (runQ wk tab slow K (d + 2))) fuel (.box [w]) (.box [w']) (i64 (colsOf A)) (i64 A.length) (i64 i) H = some (.bool false, H))
  | 0, i, fuel, him, hf => by
    obtain ⟨fuel, rfl⟩ : ∃ m, fuel = m + 1 := ⟨fuel - 1, by omega⟩
    have hi : ¬ i < A.length := by omega
    refine .inl ⟨fun x y h1 h2 => by omega, ?_⟩
    rw [z_loop5]
    simp only [f10_l3, n_lss, decide_eq_false hi, z_cond, cond_false]
  | m + 1, i, fuel, him, hf => by
    obtain ⟨fuel, rfl⟩ : ∃ m, fuel = m + 1 := ⟨fuel - 1, by omega⟩
    have hi : i < A.length := by omega
    have hc := ha.c16
    rw [z_loop5]
    simp only [f10_l3, n_lss, decide_eq_true hi, z_cond, cond_true]
    rw [show (SV.int .i64 0) = i64 0 from rfl]
    rcases msame_in K hK d H hw hw' ha hb h1 h2 hi (slow.loop5 (f10_l3 slow K (runQ wk tab slow K (d + 2))) fuel) (colsOf A) 0 K (by omega) (by omega) with ⟨q1, q2⟩ | ⟨⟨y, q1, q3⟩, q2⟩
    · rw [q2]
      rcases msame_out K hK d H hw hw' ha hb h1 h2 m (i + 1) fuel (by omega) (by omega) with ⟨p1, p2⟩ | ⟨p1, p2⟩
      · refine .inl ⟨fun x y hx1 hx2 hy => ?_, p2⟩
        by_cases hxi : x = i
        · rw [hxi]; exact q1 y (Nat.zero_le _) hy
        · exact p1 x y (by omega) hx2 hy
      · exact .inr ⟨p1, p2⟩
    · rw [q2]
      exact .inr ⟨⟨i, y, hi, q1, q3⟩, rfl⟩
theorem msame_ok (K : Nat) (hK : 1000 < K) (d : Nat) (H : Heap) {v v' : SV} {A B : List (List Int)} (hv : IsMat H v A) (hv' : IsMat H v' B) (ha : Good A) (hb : Good B) : runQ wk tab slow K (d + 3) 10 [v, v'] H = some (.bool (decide (A = B)), H) := by
  have hsz := msize_ok K (d + 1) H hv
  have hsz' := msize_ok K (d + 1) H hv'
  obtain ⟨w, rfl, hr⟩ := hv
  obtain ⟨w', rfl, hr'⟩ := hv'
  have hrows := ha.rows
  show f10 slow K (runQ wk tab slow K (d + 2)) (.agg [w]) (.agg [w']) H = _
  simp only [f10, z_bbox, z_lload1, hsz, z_call, z_ext0, z_ext1, hsz', n_neq, z_guard]
  by_cases h1 : B.length = A.length
  · have hn1 : ¬ B.length ≠ A.length := fun h => h h1
    rw [decide_eq_false hn1, cond_false]
    by_cases h2 : colsOf B = colsOf A
    · have hn2 : ¬ colsOf B ≠ colsOf A := fun h => h h2
      rw [decide_eq_false hn2]
      simp only [f10_j1, z_cond, cond_false]
      rw [show (SV.int .i64 0) = i64 0 from rfl]
      rcases msame_out K hK d H hr hr' ha hb h1.symm h2.symm A.length 0 K (by omega) (by omega) with ⟨q1, q2⟩ | ⟨⟨x, y, q1, q3, q4⟩, q2⟩
      · rw [q2, decide_eq_true (Good.ext ha hb h1.symm h2.symm fun i j hi hj => q1 i j (Nat.zero_le _) hi hj)]
      · rw [q2, decide_eq_false fun e => q4 (by rw [e])]
    · rw [decide_eq_true h2, decide_eq_false (fun e => h2 (by rw [e]))]
      simp only [f10_j1, z_cond, cond_true]
  · rw [decide_eq_true h1, cond_true, decide_eq_false (fun e => h1 (by rw [e]))]
    simp only [f10_j1, z_cond, cond_true]
end Go.Sh.Of
