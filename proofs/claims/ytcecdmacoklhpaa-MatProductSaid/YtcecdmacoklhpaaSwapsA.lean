/- Texts there and back; rows that change places. -/
import Derived.Test.YtcecdmacoklhpaaSteps
import Derived.Test.YtcecdmacoklhpaaStrs
set_option linter.unusedVariables false
set_option linter.unusedSimpArgs false
namespace Go.Sh.Of
open Go Go.Sh

theorem chr_nat {d : Nat} (h : d < 10) : (chr d).toNat = 48 + d := by
  unfold chr
  simp
  omega
theorem valS_dec : ∀ n : Nat, valS 0 ((decLE n).reverse.map chr) = n := fun n => by
  induction n using Nat.strongRecOn with
  | ind n ih =>
    by_cases h : n = 0
    · subst h
      rw [decLE_zero]
      rfl
    · have hlt : n / 10 < n := Nat.div_lt_self (Nat.pos_of_ne_zero h) (by decide)
      rw [decLE_pos h, List.reverse_cons, List.map_append, valS_append, ih (n / 10) hlt]
      show valS (10 * (n / 10) + digV (chr (n % 10))) [] = n
      rw [digV_eq, chr_nat (Nat.mod_lt _ (by decide))]
      show 10 * (n / 10) + (48 + n % 10 - 48) = n
      omega
theorem last_dec : ∀ n : Nat, n ≠ 0 → ∃ d, (decLE n).getLast? = some d ∧ d ≠ 0 ∧ d < 10 := fun n => by
  induction n using Nat.strongRecOn with
  | ind n ih =>
    intro h
    have hlt : n / 10 < n := Nat.div_lt_self (Nat.pos_of_ne_zero h) (by decide)
    rw [decLE_pos h]
    by_cases h0 : n / 10 = 0
    · rw [h0, decLE_zero]
      exact ⟨n % 10, rfl, by omega, Nat.mod_lt _ (by decide)⟩
    · obtain ⟨d, h1, h2, h3⟩ := ih (n / 10) hlt h0
      refine ⟨d, ?_, h2, h3⟩
      rw [List.getLast?_cons, h1]
      rfl
theorem head_dec {n : Nat} (h : n ≠ 0) : ∃ d s, dec n = chr d :: s ∧ d ≠ 0 ∧ d < 10 := by
  obtain ⟨d, h1, h2, h3⟩ := last_dec n h
  unfold dec
  rw [if_neg h]
  have h4 : ((decLE n).reverse).head? = some d := by rw [List.head?_reverse]; exact h1
  cases hr : (decLE n).reverse with
  | nil => rw [hr] at h4; cases h4
  | cons x s =>
    rw [hr] at h4
    cases h4
    exact ⟨d, s.map chr, rfl, h2, h3⟩
theorem dec_dig (n : Nat) : (dec n).all isDig = true := by
  unfold dec
  split
  · rfl
  · rw [List.all_eq_true]
    intro c hc
    obtain ⟨d, hd, rfl⟩ := List.mem_map.1 hc
    have := decLE_lt d (List.mem_reverse.1 hd)
    rw [isDig_iff, chr_nat this]
    omega
theorem dec_val (n : Nat) : valS 0 (dec n) = n := by
  unfold dec
  split
  · rename_i h
    subst h
    show valS (10 * 0 + digV 48) [] = 0
    rw [digV_eq]
    rfl
  · exact valS_dec n
theorem dec_digits (n : Nat) : digitsB (dec n) = true := by
  unfold digitsB
  rw [dec_dig]
  by_cases h : n = 0
  · subst h
    rfl
  · obtain ⟨d, s, h1, h2, h3⟩ := head_dec h
    rw [h1]
    have h4 : ¬ chr d = 48 := fun e => by
      have := chr_nat h3
      rw [e] at this
      have e2 : (48 : UInt8).toNat = 48 := rfl
      omega
    have h5 : (some (chr d) == some (48 : UInt8)) = false := by
      rw [beq_eq_false_iff_ne]
      intro e
      exact h4 (Option.some.inj e)
    simp only [List.isEmpty_cons, List.head?_cons, h5, Bool.and_false, Bool.not_false, Bool.and_self]
theorem dec_head (n : Nat) : (dec n).head? ≠ some 45 := by
  by_cases h : n = 0
  · subst h
    decide
  · obtain ⟨d, s, h1, h2, h3⟩ := head_dec h
    rw [h1]
    intro e
    have e1 : chr d = 45 := Option.some.inj e
    have := chr_nat h3
    rw [e1] at this
    have e2 : (45 : UInt8).toNat = 45 := rfl
    omega
theorem text_back {z : Int} (hz : z.natAbs < 2 ^ 4096) : errS (textZ z) = 0 ∧ numS (textZ z) = z := by
  have hb : bodyS (textZ z) = dec z.natAbs := by
    unfold bodyS textZ
    by_cases h : z < 0
    · rw [if_pos h]
      rfl
    · rw [if_neg h, if_neg (dec_head _)]
  have hne : textZ z ≠ [45, 48] := by
    unfold textZ
    by_cases h : z < 0
    · rw [if_pos h]
      obtain ⟨d, s, h1, h2, h3⟩ := head_dec (n := z.natAbs) (by omega)
      rw [h1]
      intro e
      have e1 : chr d = 48 := (List.cons.inj (List.cons.inj e).2).1
      have := chr_nat h3
      rw [e1] at this
      have e2 : (48 : UInt8).toNat = 48 := rfl
      omega
    · rw [if_neg h]
      intro e
      have := dec_head z.natAbs
      rw [e] at this
      exact this rfl
  have hs : decide ((textZ z).head? = some 45) = decide (z < 0) := by
    unfold textZ
    by_cases h : z < 0
    · rw [if_pos h, decide_eq_true h]
      rfl
    · rw [if_neg h, decide_eq_false h]
      exact decide_eq_false (dec_head _)
  unfold errS numS
  rw [if_neg hne, if_neg hne, hb, hs]
  unfold errN numN
  rw [dec_digits, dec_val, if_pos rfl, if_pos hz, Bool.true_and, if_pos (decide_eq_true hz), sgn_self]
  exact ⟨rfl, rfl⟩
theorem stIn_zero2 {err : Nat → Nat → Int} {i : Nat} : ∀ {m j : Nat}, (∀ k, j ≤ k → k < j + m → err i k = 0) → stIn err i j m 0 = 0
  | 0, j, _ => rfl
  | m + 1, j, h => by
    rw [stIn, if_pos rfl, h j (Nat.le_refl _) (by omega)]
    exact stIn_zero2 fun k a b => h k (by omega) (by omega)
theorem stOut_zero2 {err : Nat → Nat → Int} {cols : Nat} : ∀ {m i : Nat}, (∀ x k, i ≤ x → x < i + m → k < cols → err x k = 0) → stOut err cols i m 0 = 0
  | 0, i, _ => rfl
  | m + 1, i, h => by
    rw [stOut, stIn_zero2 fun k _ b => h i k (Nat.le_refl _) (by omega) (by omega)]
    exact stOut_zero2 fun x k a b c => h x k (by omega) (by omega) c
theorem entT_text {R : List (List Int)} (hg : Good R) {i j : Nat} (hi : i < R.length) (hj : j < colsOf R) : entT (textRows R) i j = textZ (ent R i j) := by
  obtain ⟨r, h1, h2, _⟩ := hg.at hi hj
  exact entT_get (r := r.map textZ) (by simp [textRows, h1]) (by simp [h2])
theorem colsT_text (R : List (List Int)) : colsT (textRows R) = colsOf R := by
  unfold colsT colsOf textRows
  cases R with
  | nil => rfl
  | cons r R => simp
/-- What a matrix is told as is read as that matrix. -/
theorem parse_back {R : List (List Int)} (hg : Good R) (hs : shapedB (R.map List.length) = true) : parseE (textRows R) = 0 ∧ parseM (textRows R) = R := by
  have hlen : (textRows R).map List.length = R.map List.length := by simp [textRows, Function.comp_def]
  have hl : (textRows R).length = R.length := by simp [textRows]
  have h0 : parseE (textRows R) = 0 := by
    unfold parseE
    rw [hlen, if_pos hs]
    refine stOut_zero2 fun x k _ hx hk => ?_
    rw [hl, Nat.zero_add] at hx
    rw [colsT_text] at hk
    unfold txtErr
    rw [entT_text hg hx hk]
    obtain ⟨_, _, _, h3⟩ := hg.at hx hk
    exact (text_back h3).1
  refine ⟨h0, ?_⟩
  unfold parseM
  rw [if_pos h0, hl, colsT_text]
  have e : matOfE (txtNum (textRows R)) R.length (colsOf R) = matOfE (ent R) R.length (colsOf R) := by
    unfold matOfE rowOfE
    refine List.map_congr_left fun x hx => List.map_congr_left fun k hk => ?_
    have hx' := List.mem_range.1 hx
    have hk' := List.mem_range.1 hk
    unfold txtNum
    rw [entT_text hg hx' hk']
    obtain ⟨_, _, _, h3⟩ := hg.at hx' hk'
    exact (text_back h3).2
  rw [e]
  exact hg.self
theorem parse_shape {T : List (List (List UInt8))} (h : parseE T = 0) : shapedB ((parseM T).map List.length) = true ∧ (parseM T).length = T.length := by
  have h' := h
  unfold parseE at h'
  split at h'
  · rename_i hs
    unfold parseM
    rw [if_pos h]
    have hl : (matOfE (txtNum T) T.length (colsT T)).map List.length = T.map List.length := by
      rcases shapedT hs with rfl | ⟨_, h2⟩
      · rfl
      · unfold matOfE
        rw [List.map_map]
        apply List.ext_getElem?
        intro i
        by_cases hi : i < T.length
        · have e : T[i]? = some T[i] := List.getElem?_eq_getElem hi
          have := (h2 T[i] (List.getElem_mem hi)).2.2
          simp [hi, rowOfE, this]
        · simp [hi, List.getElem?_eq_none (show T.length ≤ i by omega)]
    exact ⟨by rw [hl]; exact hs, matOfE_len _ _ _⟩
  · cases h'
/-! ### Rows that change places -/
def swL (R : List (List Int)) (i j : Nat) (a b : List Int) : List (List Int) := (R.set i b).set j a
theorem swL_get {R : List (List Int)} {i j : Nat} {a b : List Int} (ha : R[i]? = some a) (hb : R[j]? = some b) (q : Nat) : (swL R i j a b)[q]? = R[if q = j then i else if q = i then j else q]? := by
  have h1 := (List.getElem?_eq_some_iff.1 ha).1
  have h2 := (List.getElem?_eq_some_iff.1 hb).1
  unfold swL
  by_cases e1 : q = j
  · subst e1
    rw [if_pos rfl, List.getElem?_set_self (by simpa using h2), ha]
  · rw [if_neg e1, List.getElem?_set_ne (Ne.symm e1)]
    by_cases e2 : q = i
    · subst e2
      rw [if_pos rfl, List.getElem?_set_self h1, hb]
    · rw [if_neg e2, List.getElem?_set_ne (Ne.symm e2)]
theorem swL_len (R : List (List Int)) (i j : Nat) (a b : List Int) : (swL R i j a b).length = R.length := by simp [swL]
theorem swL_mem {R : List (List Int)} {i j : Nat} {a b : List Int} (ha : R[i]? = some a) (hb : R[j]? = some b) (r : List Int) : r ∈ swL R i j a b ↔ r ∈ R := by
  constructor
  · intro h
    obtain ⟨q, hq⟩ := List.getElem?_of_mem h
    rw [swL_get ha hb] at hq
    exact List.mem_of_getElem? hq
  · intro h
    obtain ⟨q, hq⟩ := List.getElem?_of_mem h
    have := swL_get ha hb (if q = j then i else if q = i then j else q)
    have e : (if (if q = j then i else if q = i then j else q) = j then i else if (if q = j then i else if q = i then j else q) = i then j else (if q = j then i else if q = i then j else q)) = q := by
      split <;> split <;> (try split) <;> (try split) <;> omega
    rw [e, hq] at this
    exact List.mem_of_getElem? this
theorem swL_cols {R : List (List Int)} (hg : Good R) {i j : Nat} {a b : List Int} (ha : R[i]? = some a) (hb : R[j]? = some b) : colsOf (swL R i j a b) = colsOf R := by
  have h1 := (List.getElem?_eq_some_iff.1 ha).1
  obtain ⟨r, hr⟩ : ∃ r, (swL R i j a b)[0]? = some r := ⟨_, List.getElem?_eq_getElem (by rw [swL_len]; omega)⟩
  have hm := (swL_mem ha hb r).1 (List.mem_of_getElem? hr)
  have e : colsOf (swL R i j a b) = r.length := by unfold colsOf; rw [hr]; rfl
  rw [e]
  exact hg.rect r hm
theorem swL_ent {R : List (List Int)} {i j : Nat} {a b : List Int} (ha : R[i]? = some a) (hb : R[j]? = some b) (x k : Nat) : ent (swL R i j a b) x k = swM (ent R) i j x k := by
  unfold swM
  show (((swL R i j a b)[x]?.getD [])[k]?).getD 0 = _
  rw [swL_get ha hb]
  by_cases e1 : x = j
  · rw [if_pos e1, if_pos e1]
    rfl
  · rw [if_neg e1, if_neg e1]
    by_cases e2 : x = i
    · rw [if_pos e2, if_pos e2]
      rfl
    · rw [if_neg e2, if_neg e2]
      rfl
theorem swL_good {R : List (List Int)} (hg : Good R) {i j : Nat} {a b : List Int} (ha : R[i]? = some a) (hb : R[j]? = some b) : Good (swL R i j a b) := by
  have hm := swL_mem ha hb
  have hc := swL_cols hg ha hb
  have h1 := (List.getElem?_eq_some_iff.1 ha).1
  exact ⟨fun r hr => by rw [hc]; exact hg.rect r ((hm r).1 hr), fun h => by
    rw [hc]
    exact hg.cols fun e => by rw [e] at h1; simp at h1, by rw [swL_len]; exact hg.rows, fun r hr => hg.big r ((hm r).1 hr)⟩
theorem wMat_lub : ∀ (R : List (List Int)) (w b : Nat), w ≤ b → (∀ r ∈ R, ∀ z ∈ r, bl z.natAbs ≤ b) → wMat w R ≤ b
  | [], w, b, h, _ => h
  | r :: R, w, b, h, hz => by
    refine wMat_lub R (wRow w r) b ?_ fun s hs => hz s (by simp [hs])
    have key : ∀ (zs : List Int) (w : Nat), w ≤ b → (∀ z ∈ zs, bl z.natAbs ≤ b) → wRow w zs ≤ b := fun zs => by
      induction zs with
      | nil => intro w h _; exact h
      | cons z zs ih =>
        intro w h hz
        exact ih _ (Nat.max_le.2 ⟨h, hz z (by simp)⟩) fun y hy => hz y (by simp [hy])
    exact key r w h (hz r (by simp))
theorem swL_wide {R : List (List Int)} (hg : Good R) {i j : Nat} {a b : List Int} (ha : R[i]? = some a) (hb : R[j]? = some b) : sqE (swL R i j a b) = sqE R := by
  have hm := swL_mem ha hb
  have e : wMat 0 (swL R i j a b) = wMat 0 R := Nat.le_antisymm (wMat_lub _ _ _ (Nat.zero_le _) fun r hr => (wMat_ge R 0).2 r ((hm r).1 hr)) (wMat_lub _ _ _ (Nat.zero_le _) fun r hr => (wMat_ge (swL R i j a b) 0).2 r ((hm r).2 hr))
  unfold sqE wideB
  rw [e, swL_len, swL_cols hg ha hb]
theorem detR_det {R : List (List Int)} (h : R.length = colsOf R) : detR R = det R.length (ent R) := by
  unfold detR
  rw [← h]
  exact bare_det _ _
theorem swL_det {R : List (List Int)} (hg : Good R) {i j : Nat} {a b : List Int} (ha : R[i]? = some a) (hb : R[j]? = some b) (hne : i ≠ j) (hsq : R.length = colsOf R) : detR (swL R i j a b) = -detR R := by
  have h1 := (List.getElem?_eq_some_iff.1 ha).1
  have h2 := (List.getElem?_eq_some_iff.1 hb).1
  rw [detR_det hsq, detR_det (by rw [swL_len, swL_cols hg ha hb]; exact hsq), swL_len, ← (det_Alt R.length).swap2 (ent R) h1 h2 hne]
  exact det_congr fun x k _ _ => swL_ent ha hb x k
theorem swL_text {R : List (List Int)} (i j : Nat) (a b : List Int) : textRows (swL R i j a b) = ((textRows R).set i (b.map textZ)).set j (a.map textZ) := by
  unfold textRows swL
  rw [List.map_set, List.map_set]
end Go.Sh.Of
