/- MatReads: rows of texts are read, told, told as machine's numbers, and copied. -/
import Derived.Test.YtdibokcaoefeaaaReadsA
set_option linter.unusedVariables false
set_option linter.unusedSimpArgs false
namespace Go.Sh.Of
open Go Go.Sh

theorem fit_all {A : List (List Int)} (h : allFit A = true) : ∀ r ∈ A, ∀ z ∈ r, I64 z := fun r hr z hz => fits64_iff.1 (List.all_eq_true.1 (List.all_eq_true.1 h r hr) z hz)
theorem good_of {A : List (List Int)} (hg : Good A) : ofErr A = 0 ∧ ofMat A = A := by
  have hsh : shapedB (A.map List.length) = true := by
    rw [shapedB_iff]
    by_cases h0 : A = []
    · exact .inl h0
    · refine .inr ⟨hg.rows, fun r hr => ?_⟩
      have h1 := hg.rect r hr
      have h2 := hg.cols h0
      exact ⟨by omega, by omega, h1⟩
  exact ⟨by unfold ofErr; rw [hsh]; rfl, by unfold ofMat; rw [hsh]; rfl⟩
/-! ### The loop over what fits -/
theorem fit_in (K : Nat) (hK : 1000 < K) (d : Nat) {H0 : Heap} {lo : Nat} {vb : SV} {A : List (List Int)} {zs : List Int} (hb : IsRRows lo H0 vb A) {x : Nat} (hx : A[x]? = some zs) (hbig : ∀ z ∈ zs, z.natAbs < 2 ^ 4096) (hzl : zs.length ≤ 16) (hx9 : x < 1000) (y49 y50 y51 y53 y54 y57 : SV) (k44 : SV → SV → SV → SV → SV → SV → SV → SV → SV → Heap → Rs) : ∀ (m j fuel : Nat) (b : Bool), j + m = zs.length → m < fuel →
    slow.loop12 (f5_l10 slow K (runQ wk tab slow K (d + 20)) k44) fuel y49 y50 y51 vb y53 y54 (.bool b) (i64 x) y57 (i64 x) (i64 zs.length) (i64 j) H0 = k44 y49 y50 y51 vb y53 y54 (.bool (b && (zs.drop j).all fits64)) y57 (i64 (x + 1)) H0
  | 0, j, fuel, b, hjm, hf => by
    obtain ⟨fuel, rfl⟩ : ∃ m, fuel = m + 1 := ⟨fuel - 1, by omega⟩
    have hj : ¬ j < zs.length := by omega
    rw [z_loop12, List.drop_of_length_le (by omega)]
    simp only [f5_l10, n_lss, decide_eq_false hj, z_cond, cond_false, List.all_nil, Bool.and_true]
    rw [show (SV.int .i64 1) = i64 1 from rfl, n_addi _ (by omega)]
  | m + 1, j, fuel, b, hjm, hf => by
    obtain ⟨fuel, rfl⟩ : ∃ m, fuel = m + 1 := ⟨fuel - 1, by omega⟩
    have hj : j < zs.length := by omega
    obtain ⟨z, hz⟩ : ∃ z, zs[j]? = some z := ⟨_, List.getElem?_eq_getElem hj⟩
    have hd : zs.drop j = z :: zs.drop (j + 1) := List.drop_eq_getElem?_toList_append (l := zs) (i := j) ▸ by rw [hz]; rfl
    obtain ⟨w, hw, hzs⟩ := hb.load hx
    obtain ⟨y, hy, hrz⟩ := hzs.load hz
    obtain ⟨n, hn⟩ := rzsm_ok K (by omega) (d + 18) H0 hrz (hbig z (List.mem_of_getElem? hz))
    rw [show d + 18 + 2 = d + 20 from rfl] at hn
    rw [z_loop12]
    simp only [f5_l10, n_lss, decide_eq_true hj, z_cond, cond_true, hw, hy, hn, z_call, z_ext0, z_ext1, z_not]
    have e1 : ∀ k, slow.add (i64 j) (.int .i64 1) k = k (i64 (j + 1)) := fun k => by rw [show (SV.int .i64 1) = i64 1 from rfl, n_addi _ (by omega)]
    cases hfit : fits64 z with
    | true =>
      simp only [Bool.not_true, cond_false, f5_j12, e1]
      rw [fit_in K hK d hb hx hbig hzl hx9 y49 y50 y51 y53 y54 y57 k44 m (j + 1) fuel b (by omega) (by omega), hd, List.all_cons, hfit, Bool.true_and]
    | false =>
      simp only [Bool.not_false, cond_true, f5_j12, e1]
      rw [fit_in K hK d hb hx hbig hzl hx9 y49 y50 y51 y53 y54 y57 k44 m (j + 1) fuel false (by omega) (by omega), hd, List.all_cons, hfit]
      simp only [Bool.false_and, Bool.and_false]
/-! ### The loop that spoils what was told -/
abbrev spoil : List UInt8 := [115, 112, 111, 105, 108, 116]
theorem spo_in (K : Nat) (C : CallC) {lo : Nat} {H0 : Heap} {t : SV} {ws : List SV} (hws : ∀ w ∈ ws, isSlice w) (hwl : ws.length ≤ 16) {A : List (List Int)} (hla : ws.length = A.length) (hgl : ∀ r ∈ A, r.length ≤ 16) {x : Nat} {w : SV} (hw : ws[x]? = some w) {r : List Int} (hr : A[x]? = some r) (y108 y109 y110 y111 y112 y113 y114 y115 y118 : SV) (k103 : SV → SV → SV → SV → SV → SV → SV → SV → SV → SV → SV → Heap → Rs) : ∀ (m j fuel : Nat) (H : Heap), j + m = r.length → m < fuel → Fr lo H0 H → Own lo H t ws → (∀ (q : Nat) w r, ws[q]? = some w → A[q]? = some r → ∃ l : List (List UInt8), Own lo H w (strs l) ∧ l.length = r.length) →
    ∃ H', slow.loop14 (f5_l21 slow K C k103) fuel y108 y109 y110 y111 y112 y113 y114 y115 t (i64 x) y118 (i64 x) (i64 r.length) (i64 j) H = k103 y108 y109 y110 y111 y112 y113 y114 y115 t y118 (i64 (x + 1)) H' ∧ Fr lo H0 H' ∧ Own lo H' t ws ∧ ∀ (q : Nat) w r, ws[q]? = some w → A[q]? = some r → ∃ l : List (List UInt8), Own lo H' w (strs l) ∧ l.length = r.length
  | 0, j, fuel, H, hjm, hf, hfr, ht, hall => by
    obtain ⟨fuel, rfl⟩ : ∃ m, fuel = m + 1 := ⟨fuel - 1, by omega⟩
    have hj : ¬ j < r.length := by omega
    have hx : x < ws.length := (List.getElem?_eq_some_iff.1 hw).1
    refine ⟨H, ?_, hfr, ht, hall⟩
    rw [z_loop14]
    simp only [f5_l21, n_lss, decide_eq_false hj, z_cond, cond_false]
    rw [show (SV.int .i64 1) = i64 1 from rfl, n_addi _ (by omega)]
  | m + 1, j, fuel, H, hjm, hf, hfr, ht, hall => by
    obtain ⟨fuel, rfl⟩ : ∃ m, fuel = m + 1 := ⟨fuel - 1, by omega⟩
    have hj : j < r.length := by omega
    have hrl := hgl r (List.mem_of_getElem? hr)
    have hx : x < ws.length := (List.getElem?_eq_some_iff.1 hw).1
    obtain ⟨l, how, hll⟩ := hall x w r hw hr
    obtain ⟨H1, st, ho1, f1, sz1, hro⟩ := how.store (i := j) (by simp [hll]; omega) (x := .str spoil) rfl .i64
    have e1 : (strs l).set j (.str spoil) = strs (l.set j spoil) := by simp [strs, List.map_set]
    rw [e1] at ho1
    have hne : ws ≠ [] := fun e => by rw [e] at hx; simp at hx
    have ht1 : Own lo H1 t ws := Own.of_rows ht fun q hq => hro q (Own.apart ht hws how hne hq)
    have hall1 : ∀ (q : Nat) w r, ws[q]? = some w → A[q]? = some r → ∃ l : List (List UInt8), Own lo H1 w (strs l) ∧ l.length = r.length := fun q w' r' hw' hr' => by
      obtain ⟨l', ho', hl'⟩ := hall q w' r' hw' hr'
      by_cases hs : ∃ s, inRow w s ∧ inRow w' s
      · obtain ⟨s, s1, s2⟩ := hs
        -- one row: its cells are those that were stored
        obtain ⟨b1, e1, g1⟩ := how
        obtain ⟨b2, e2, g2⟩ := ho'
        obtain ⟨b3, e3, g3⟩ := ho1
        subst e1 e2
        simp only [SV.slice.injEq, Sl.mk.injEq] at e3
        rcases g1 with ⟨rfl, _⟩ | ⟨r1, v1, rfl, g1, g1'⟩
        · obtain ⟨q, o, e, h4⟩ := s1; cases e; cases h4
        · rcases g2 with ⟨rfl, _⟩ | ⟨r2, v2, rfl, g2, g2'⟩
          · obtain ⟨q, o, e, h4⟩ := s2; cases e; cases h4
          · obtain ⟨q, o, e, h4⟩ := s1; cases e; cases h4
            obtain ⟨q, o, e, h4⟩ := s2; cases e; cases h4
            rw [g1'] at g2'
            have hcells : strs l = strs l' := by
              have := Option.some.inj g2'
              exact congrArg Row.cells this
            have hlen : l.length = l'.length := by have := congrArg List.length hcells; simpa using this
            rcases g3 with ⟨e4, _⟩ | ⟨r3, v3, e4, g3, g3'⟩
            · rw [e4] at e3; cases e3.1
            · rw [e4] at e3
              have e5 := e3.1
              simp at e5
              subst e5
              exact ⟨l.set j spoil, ⟨some (s, 0), by simp [hlen], .inr ⟨s, v3, rfl, g3, g3'⟩⟩, by simp [hlen, hl']⟩
      · exact ⟨l', Own.of_rows ho' fun q hq => hro q fun h => hs ⟨q, h, hq⟩, hl'⟩
    obtain ⟨H2, h2, rest⟩ := spo_in K C hws hwl hla hgl hw hr y108 y109 y110 y111 y112 y113 y114 y115 y118 k103 m (j + 1) fuel H1 (by omega) (by omega) (hfr.trans f1) ht1 hall1
    refine ⟨H2, ?_, rest⟩
    rw [z_loop14]
    simp only [f5_l21, n_lss, decide_eq_true hj, z_cond, cond_true, ht.arr.load hw, st]
    rw [show (SV.int .i64 1) = i64 1 from rfl, n_addi _ (by omega)]
    exact h2
end Go.Sh.Of
