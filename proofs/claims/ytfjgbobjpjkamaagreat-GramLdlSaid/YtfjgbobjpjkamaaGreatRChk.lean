/- Contracts of the reference's layer 7: corner, Minor, Check, Det. -/
import Derived.Test.YtfjgbobjpjkamaaGreatRSteps
set_option linter.unusedVariables false
set_option linter.unusedSimpArgs false
namespace Go.Sh.Of
open Go
theorem small_i64 {z : Int} (h : -16384 <= z /\ z <= 16384) : -9223372036854775808 <= z /\ z < 9223372036854775808 := by omega
theorem rcorner_in (K : Nat) (hK : 3000000 < K) (d : Nat) {H0 Hi : Heap} (h0i : Frame H0 Hi) {v : SV} {A : List (List Int)} (hv : IsInts2 H0 v A) (hs : Sq A) {k : Nat} (hk : k <= A.length) {i : Nat} (hi : i < k) {r : List Int} (hr : A[i]? = some r) {lo : Nat} {out : SV} {rows : List (List Int)} (ho : ROut lo Hi out rows) (hlo : lo <= Hi.size) (hrl : rows.length = i) (k6 : SV -> SV -> SV -> SV -> Heap -> Rs) : ∀ (m j fuel : Nat) (H : Heap) (t : SV), j + m = k -> m < fuel -> Frame Hi H -> RRow Hi.size H t (r.take j) ->
  ∃ out' H', slow.loop6 (f61_l3 slow K (runQ wk tab slow K (d + 2)) k6) fuel v (i64 k) out (i64 i) t (i64 j) H = k6 v (i64 k) out' (i64 (i + 1)) H' /\ Fr lo Hi H' /\ ROut lo H' out' (rows ++ [r.take k])
 | 0, j, fuel, H, t, hjm, hf, hfr, ht => by
  obtain ⟨fuel, rfl⟩ : ∃ q, fuel = q + 1 := ⟨fuel - 1, by omega⟩
  have e : j = k := by omega
  subst e
  have h8 := hs.n8
  have hlt : ¬ j < j := Nat.lt_irrefl j
  obtain ⟨out', H', h1, o1, f1⟩ := ho.push hlo hfr ht (by omega)
  refine ⟨out', H', ?_, f1, o1⟩
  rw [z_loop6]
  simp only [f61_l3, n_lss, decide_eq_false hlt, z_cond, cond_false, h1, w_inc (show i < 1000000 by omega)]
 | m + 1, j, fuel, H, t, hjm, hf, hfr, ht => by
  obtain ⟨fuel, rfl⟩ : ∃ q, fuel = q + 1 := ⟨fuel - 1, by omega⟩
  have hlt : j < k := by omega
  have h8 := hs.n8
  have hrl' := hs.sq r (List.mem_of_getElem? hr)
  obtain ⟨z, hz⟩ : ∃ z, r[j]? = some z := ⟨_, List.getElem?_eq_getElem (by omega)⟩
  obtain ⟨w, l1, l2⟩ := ints_entry (IsRowsC.fr hv (Frame.trans h0i hfr)) hr hz
  obtain ⟨z0, z1⟩ := small_i64 (hs.sm r (List.mem_of_getElem? hr) z (List.mem_of_getElem? hz))
  obtain ⟨x, H1, h1, f1, n1⟩ := rzof_ok K (by omega) d H z0 z1
  have n1' := n1
  obtain ⟨q, rfl, _⟩ := n1
  obtain ⟨t', H2, h2, t2, f2⟩ := (ht.fr f1).push (Nat.le_trans hfr.size f1.size) n1' (by simp; omega)
  have e2 : r.take j ++ [z] = r.take (j + 1) := by rw [List.take_add_one, hz]; rfl
  rw [e2] at t2
  obtain ⟨out', H', h3, g3⟩ := rcorner_in K hK d h0i hv hs hk hi hr ho hlo hrl k6 m (j + 1) fuel H2 t' (by omega) (by omega) (Fr.trans (Frame.trans hfr f1) f2) t2
  refine ⟨out', H', ?_, g3⟩
  rw [z_loop6]
  simp only [f61_l3, n_lss, decide_eq_true hlt, z_cond, cond_true, l1, l2, h1, z_call, h2, w_inc (show j < 1000000 by omega)]
  exact h3
theorem rcorner_out (K : Nat) (hK : 3000000 < K) (d : Nat) {H0 : Heap} {v : SV} {A : List (List Int)} (hv : IsInts2 H0 v A) (hs : Sq A) {k : Nat} (hk : k <= A.length) : ∀ (m i fuel : Nat) (H : Heap) (out : SV), i + m = k -> m < fuel -> Frame H0 H -> ROut H0.size H out ((A.take i).map fun r => r.take k) ->
  ∃ w H', slow.loop4 (f61_l1 slow K (runQ wk tab slow K (d + 2))) fuel v (i64 k) out (i64 i) H = some (w, H') /\ Frame H0 H' /\ ROut H0.size H' w (cornL A k)
 | 0, i, fuel, H, out, him, hf, hfr, ho => by
  obtain ⟨fuel, rfl⟩ : ∃ q, fuel = q + 1 := ⟨fuel - 1, by omega⟩
  have e : i = k := by omega
  subst e
  have hlt : ¬ i < i := Nat.lt_irrefl i
  refine ⟨out, H, ?_, hfr, ho⟩
  rw [z_loop4]
  simp only [f61_l1, n_lss, decide_eq_false hlt, z_cond, cond_false, z_rest ho.good]
 | m + 1, i, fuel, H, out, him, hf, hfr, ho => by
  obtain ⟨fuel, rfl⟩ : ∃ q, fuel = q + 1 := ⟨fuel - 1, by omega⟩
  have hlt : i < k := by omega
  have h8 := hs.n8
  obtain ⟨r, hr⟩ : ∃ r, A[i]? = some r := ⟨_, List.getElem?_eq_getElem (by omega)⟩
  obtain ⟨out', H1, h1, f1, o1⟩ := rcorner_in K hK d hfr hv hs hk hlt hr ho hfr.size (by simp; omega) (slow.loop4 (f61_l1 slow K (runQ wk tab slow K (d + 2))) fuel) k 0 K H (.slice nilSl) (by omega) (by omega) (Fr.refl _ _) (by simpa using RRow.nil _ _)
  rw [<- cornL_step hr] at o1
  obtain ⟨w, H2, h2, g2⟩ := rcorner_out K hK d hv hs hk m (i + 1) fuel H1 out' (by omega) (by omega) (Fr.trans hfr f1) o1
  refine ⟨w, H2, ?_, g2⟩
  rw [z_loop4]
  simp only [f61_l1, n_lss, decide_eq_true hlt, z_cond, cond_true]
  rw [show (SV.int .i64 0) = i64 0 from rfl, h1]
  exact h2
theorem rcorner_ok (K : Nat) (hK : 3000000 < K) (d : Nat) (H : Heap) {v : SV} {A : List (List Int)} (hv : IsInts2 H v A) (hs : Sq A) {k : Nat} (hk : k <= A.length) :
  ∃ w H', runQ wk tab slow K (d + 3) 61 [v, i64 k] H = some (w, H') /\ Frame H H' /\ IsRRows H.size H' w (cornL A k) := by
 have h8 := hs.n8
 obtain ⟨w, H1, h1, f1, o1⟩ := rcorner_out K hK d hv hs hk k 0 K H (.slice nilSl) (by omega) (by omega) (Fr.refl _ _) (by simpa using ROut.nil _ _)
 exact ⟨w, H1, h1, f1, o1.rrows⟩
theorem rminor_run (K d : Nat) (H : Heap) (v k : SV) : runQ wk tab slow K (d + 8) 25 [v, k] H = f25 slow K (runQ wk tab slow K (d + 7)) v k H := Eq.trans rfl rfl
theorem rminor_ok (K : Nat) (hK : 3000000 < K) (d : Nat) (H : Heap) {v : SV} {A : List (List Int)} (hv : IsInts2 H v A) (hs : Sq A) {k : Nat} (hk : k <= A.length) (h0 : 1 <= k) :
  ∃ y H', runQ wk tab slow K (d + 8) 25 [v, i64 k] H = some (y, H') /\ Frame H H' /\ IsRZ H' y (det k (ent A)) := by
 obtain ⟨w, H1, h1, f1, n1⟩ := rcorner_ok K hK (d + 4) H hv hs hk
 rw [show d + 4 + 3 = d + 7 from rfl] at h1
 obtain ⟨c1, c2, c3⟩ := cornL_sq hs hk h0
 have hc := c1.cols
 have hb := c1.bd
 obtain ⟨y, H2, h2, f2, n2⟩ := rdet_ok K hK d H1 n1 c1.good hc.symm (by rw [hc]; exact hb)
 have e : det (cornL A k).length (ent (cornL A k)) = det k (ent A) := by
  rw [c2]
  exact det_congr fun i j hi hj => c3 i j hi hj
 rw [e] at n2
 have n2' := n2
 obtain ⟨s, rfl, _⟩ := n2
 refine ⟨_, H2, ?_, Frame.trans f1 f2, n2'⟩
 rw [rminor_run]
 simp only [f25, h1, z_call, h2, z_bst2, z_resc2]
theorem rchk_l27 (K : Nat) (hK : 3000000 < K) (d : Nat) {H0 : Heap} {v : SV} {A : List (List Int)} (hv : IsInts2 H0 v A) (hs : Sq A) : ∀ (m k fuel : Nat) (H : Heap), k + m = A.length -> m + 1 < fuel -> Frame H0 H -> posN (ent A) k 0 = true ->
  ∃ H', slow.loop2 (f8_l27 slow K (runQ wk tab slow K (d + 8))) fuel v (i64 (k + 1)) H = some (.int .i64 (if posN (ent A) A.length 0 then 0 else 6), H') /\ Frame H0 H'
 | 0, k, fuel, H, hkm, hf, hfr, hp => by
  obtain ⟨fuel, rfl⟩ : ∃ q, fuel = q + 1 := ⟨fuel - 1, by omega⟩
  have e : k = A.length := by omega
  subst e
  have hlt : ¬ A.length + 1 <= A.length := by omega
  refine ⟨H, ?_, hfr⟩
  rw [z_loop2]
  have hle : ∀ k, slow.leq (i64 (A.length + 1)) (i64 A.length) k = k (.bool false) := fun k => by rw [n_leq, decide_eq_false hlt]
  simp only [f8_l27, ints_len (IsRowsC.fr hv hfr), hle, z_cond, cond_false, hp, if_true]
 | m + 1, k, fuel, H, hkm, hf, hfr, hp => by
  obtain ⟨fuel, rfl⟩ : ∃ q, fuel = q + 1 := ⟨fuel - 1, by omega⟩
  have hlt : k + 1 <= A.length := by omega
  have h8 := hs.n8
  have hle : ∀ k', slow.leq (i64 (k + 1)) (i64 A.length) k' = k' (.bool true) := fun k' => by rw [n_leq, decide_eq_true hlt]
  obtain ⟨y, H1, h1, f1, n1⟩ := rminor_ok K hK d H (IsRowsC.fr hv hfr) hs hlt (by omega)
  obtain ⟨s, rfl, n2⟩ := n1
  have hl : ∀ k', slow.len (.slice s) k' = k' (i64 (rdigs (det (k + 1) (ent A)).natAbs).length) := rlen n2
  rw [z_loop2]
  simp only [f8_l27, ints_len (IsRowsC.fr hv hfr), hle, z_cond, cond_true, h1, z_call, z_bst2, z_lfld, z_lld0, z_lld1, hl, z_eql, rlen0b]
  have hstop : det (k + 1) (ent A) <= 0 -> posN (ent A) A.length 0 = false := fun h => by
   cases hq : posN (ent A) A.length 0 with
   | false => rfl
   | true =>
    have := posN_iff.1 hq (k + 1) (by omega) (by omega)
    omega
  by_cases hn : det (k + 1) (ent A) < 0
  ·refine ⟨H1, ?_, Frame.trans hfr f1⟩
   rw [decide_eq_true hn, hstop (by omega)]
   simp only [z_guard, cond_true, f8_j29, z_cond]
   rfl
  ·rw [decide_eq_false hn]
   by_cases h0 : det (k + 1) (ent A) = 0
   ·refine ⟨H1, ?_, Frame.trans hfr f1⟩
    rw [decide_eq_true h0, hstop (by omega)]
    simp only [z_guard, cond_false, cond_true, f8_j29, z_cond]
    rfl
   ·have hp' : posN (ent A) (k + 1) 0 = true := posN_iff.2 fun t h1 h2 => by
     by_cases e : t = k + 1
     ·subst e; omega
     ·exact posN_iff.1 hp t h1 (by omega)
    obtain ⟨H2, h2, f2⟩ := rchk_l27 K hK d hv hs m (k + 1) fuel H1 (by omega) (by omega) (Frame.trans hfr f1) hp'
    refine ⟨H2, ?_, f2⟩
    rw [decide_eq_false h0]
    simp only [z_guard, cond_false, f8_j29, z_cond, w_inc (show k + 1 < 1000000 by omega)]
    exact h2
theorem rchk_l20 (C : CallC) (K : Nat) {H : Heap} {v : SV} {A : List (List Int)} (hv : IsInts2 H v A) (hs : Sq A) {i : Nat} (hi : i < A.length) (k46 : SV -> SV -> Heap -> Rs) : ∀ (m j fuel : Nat), j + m = i -> m < fuel -> (∀ t, t < j -> ent A i t = ent A t i) ->
  (slow.loop3 (f8_l20 slow K C k46) fuel v (i64 i) (i64 j) H = some (.int .i64 6, H) /\ ∃ t, t < i /\ ent A i t ≠ ent A t i) \/ (slow.loop3 (f8_l20 slow K C k46) fuel v (i64 i) (i64 j) H = k46 v (i64 (i + 1)) H /\ ∀ t, t < i -> ent A i t = ent A t i)
 | 0, j, fuel, hjm, hf, hd => by
  obtain ⟨fuel, rfl⟩ : ∃ q, fuel = q + 1 := ⟨fuel - 1, by omega⟩
  have hlt : ¬ j < i := by omega
  have h8 := hs.n8
  refine .inr ⟨?_, fun t ht => hd t (by omega)⟩
  rw [z_loop3]
  simp only [f8_l20, n_lss, decide_eq_false hlt, z_cond, cond_false, w_inc (show i < 1000000 by omega)]
 | m + 1, j, fuel, hjm, hf, hd => by
  obtain ⟨fuel, rfl⟩ : ∃ q, fuel = q + 1 := ⟨fuel - 1, by omega⟩
  have hlt : j < i := by omega
  have h8 := hs.n8
  obtain ⟨r, a1, a2, _⟩ := hs.at (i := i) (j := j) hi (by omega)
  obtain ⟨r', b1, b2, _⟩ := hs.at (i := j) (j := i) (by omega) hi
  obtain ⟨w, l1, l2⟩ := ints_entry hv a1 a2
  obtain ⟨w', l3, l4⟩ := ints_entry hv b1 b2
  rw [z_loop3]
  simp only [f8_l20, n_lss, decide_eq_true hlt, z_cond, cond_true, l1, l2, l3, l4, z_neq]
  by_cases e : ent A i j = ent A j i
  ·have hb : (ent A i j != ent A j i) = false := by simp [e]
   rw [hb]
   simp only [cond_false, w_inc (show j < 1000000 by omega)]
   exact rchk_l20 C K hv hs hi k46 m (j + 1) fuel (by omega) (by omega) fun t ht => by
    by_cases h : t = j
    ·rw [h]; exact e
    ·exact hd t (by omega)
  ·left
   have hb : (ent A i j != ent A j i) = true := by simp [e]
   rw [hb]
   exact ⟨rfl, j, hlt, e⟩
theorem rchk_l18 (K : Nat) (hK : 3000000 < K) (d : Nat) {H : Heap} {v : SV} {A : List (List Int)} (hv : IsInts2 H v A) (hs : Sq A) : ∀ (m i fuel : Nat), i + m = A.length -> m < fuel -> (∀ x t, x < i -> t < x -> ent A x t = ent A t x) ->
  ∃ H', slow.loop2 (f8_l18 slow K (runQ wk tab slow K (d + 8))) fuel v (i64 i) H = some (.int .i64 (if outB (fun i j => ent A i j == ent A j i) A 0 then if posN (ent A) A.length 0 then 0 else 6 else 6), H') /\ Frame H H'
 | 0, i, fuel, him, hf, hd => by
  obtain ⟨fuel, rfl⟩ : ∃ q, fuel = q + 1 := ⟨fuel - 1, by omega⟩
  have hlt : ¬ i < A.length := by omega
  have h8 := hs.n8
  have hy : Sym A.length (ent A) := fun x t hx ht => by
   rcases Nat.lt_trichotomy x t with h | h | h
   ·exact (hd t x (by omega) h).symm
   ·rw [h]
   ·exact hd x t (by omega) h
  obtain ⟨H', h1, f1⟩ := rchk_l27 K hK d hv hs A.length 0 K H (by omega) (by omega) (Fr.refl _ _) rfl
  refine ⟨H', ?_, f1⟩
  rw [if_pos ((symB_iff hs.sq).2 hy), z_loop2]
  simp only [f8_l18, ints_len hv, n_lss, decide_eq_false hlt, z_cond, cond_false]
  exact h1
 | m + 1, i, fuel, him, hf, hd => by
  obtain ⟨fuel, rfl⟩ : ∃ q, fuel = q + 1 := ⟨fuel - 1, by omega⟩
  have hlt : i < A.length := by omega
  have h8 := hs.n8
  rw [z_loop2]
  simp only [f8_l18, ints_len hv, n_lss, decide_eq_true hlt, z_cond, cond_true]
  rcases rchk_l20 (runQ wk tab slow K (d + 8)) K hv hs hlt (slow.loop2 (f8_l18 slow K (runQ wk tab slow K (d + 8))) fuel) i 0 K (by omega) (by omega) (fun t ht => absurd ht (Nat.not_lt_zero t)) with ⟨h, t, h1, h2⟩ | ⟨h, h1⟩
  ·have hno : ¬ outB (fun i j => ent A i j == ent A j i) A 0 = true := fun hh => h2 ((symB_iff hs.sq).1 hh i t hlt (by omega))
   rw [if_neg hno]
   exact ⟨H, h, Fr.refl _ _⟩
  ·obtain ⟨H', h2, f2⟩ := rchk_l18 K hK d hv hs m (i + 1) fuel (by omega) (by omega) fun x t hx ht => by
    by_cases e : x = i
    ·subst e; exact h1 t ht
    ·exact hd x t (by omega) ht
   exact ⟨H', h.trans h2, f2⟩
theorem rchk_l10 (C : CallC) (K : Nat) {H : Heap} {v : SV} {A : List (List Int)} (hv : IsInts2 H v A) (h8 : A.length <= 8) {i : Nat} {r : List Int} (hr : A[i]? = some r) (hrl : r.length = A.length) (k20 : SV -> SV -> Heap -> Rs) : ∀ (m j fuel : Nat), j + m = A.length -> m < fuel -> (∀ t z, t < j -> r[t]? = some z -> smallB z = true) ->
  (slow.loop3 (f8_l10 slow K C k20) fuel v (i64 i) (i64 j) H = some (.int .i64 3, H) /\ ∃ z ∈ r, smallB z = false) \/ (slow.loop3 (f8_l10 slow K C k20) fuel v (i64 i) (i64 j) H = k20 v (i64 (i + 1)) H /\ ∀ z ∈ r, smallB z = true)
 | 0, j, fuel, hjm, hf, hd => by
  obtain ⟨fuel, rfl⟩ : ∃ q, fuel = q + 1 := ⟨fuel - 1, by omega⟩
  have hlt : ¬ j < A.length := by omega
  have hi := (List.getElem?_eq_some_iff.1 hr).1
  refine .inr ⟨?_, fun z hz => ?_⟩
  ·rw [z_loop3]
   simp only [f8_l10, ints_len hv, n_lss, decide_eq_false hlt, z_cond, cond_false, w_inc (show i < 1000000 by omega)]
  ·obtain ⟨t, ht⟩ := List.getElem?_of_mem hz
   exact hd t z (by have := (List.getElem?_eq_some_iff.1 ht).1; omega) ht
 | m + 1, j, fuel, hjm, hf, hd => by
  obtain ⟨fuel, rfl⟩ : ∃ q, fuel = q + 1 := ⟨fuel - 1, by omega⟩
  have hlt : j < A.length := by omega
  obtain ⟨z, hz⟩ : ∃ z, r[j]? = some z := ⟨_, List.getElem?_eq_getElem (by omega)⟩
  obtain ⟨w, l1, l2⟩ := ints_entry hv hr hz
  have hlj : ∀ k, slow.lss (i64 j) (i64 A.length) k = k (.bool true) := fun k => by rw [n_lss, decide_eq_true hlt]
  rw [z_loop3]
  simp only [f8_l10, ints_len hv, hlj, z_cond, cond_true, l1, l2, z_gtr]
  by_cases h1 : z > 16384
  ·left
   rw [decide_eq_true h1]
   refine ⟨rfl, z, List.mem_of_getElem? hz, ?_⟩
   unfold smallB
   rw [decide_eq_false (show ¬ z <= 16384 by omega), Bool.and_false]
  ·rw [decide_eq_false h1]
   have hz2 : ∀ k, slow.lss (.int .i64 z) (.int .i64 (-16384)) k = k (.bool (decide (z < -16384))) := fun k => z_lss _ _ _ k
   simp only [z_guard, cond_false, hz2]
   by_cases h2 : z < -16384
   ·left
    rw [decide_eq_true h2]
    refine ⟨rfl, z, List.mem_of_getElem? hz, ?_⟩
    unfold smallB
    rw [decide_eq_false (show ¬ -16384 <= z by omega), Bool.false_and]
   ·rw [decide_eq_false h2]
    simp only [f8_j12, z_cond, cond_false, w_inc (show j < 1000000 by omega)]
    exact rchk_l10 C K hv h8 hr hrl k20 m (j + 1) fuel (by omega) (by omega) fun t z' ht hz' => by
     by_cases e : t = j
     ·subst e
      rw [hz] at hz'
      cases hz'
      unfold smallB
      rw [decide_eq_true (show z <= 16384 by omega), decide_eq_true (show -16384 <= z by omega)]
      rfl
     ·exact hd t z' (by omega) hz'
theorem rchk_l8 (K : Nat) (hK : 3000000 < K) (d : Nat) {H : Heap} {v : SV} {A : List (List Int)} (hv : IsInts2 H v A) (h1 : ¬ A.length < 1) (h2 : ¬ 8 < A.length) (h3 : sqB A = true) : ∀ (m i fuel : Nat), i + m = A.length -> m < fuel -> (∀ (x : Nat) r, x < i -> A[x]? = some r -> ∀ z ∈ r, smallB z = true) ->
  ∃ H', slow.loop2 (f8_l8 slow K (runQ wk tab slow K (d + 8))) fuel v (i64 i) H = some (.int .i64 (chkE A), H') /\ Frame H H'
 | 0, i, fuel, him, hf, hd => by
  obtain ⟨fuel, rfl⟩ : ∃ q, fuel = q + 1 := ⟨fuel - 1, by omega⟩
  have hlt : ¬ i < A.length := by omega
  have h4 : outB (fun i j => smallB (ent A i j)) A 0 = true := outB_iff.2 fun x r k hx hk => by
   obtain ⟨z, hz⟩ : ∃ z, r[k]? = some z := ⟨_, List.getElem?_eq_getElem hk⟩
   rw [Nat.zero_add, ent_of hx hz]
   exact hd x r (by have := (List.getElem?_eq_some_iff.1 hx).1; omega) hx z (List.mem_of_getElem? hz)
  have hs := sq_small h1 h2 h3 h4
  obtain ⟨H', h5, f5⟩ := rchk_l18 K hK d hv hs A.length 0 K (by omega) (by omega) (fun x t hx => absurd hx (Nat.not_lt_zero x))
  refine ⟨H', ?_, f5⟩
  have e : chkE A = if outB (fun i j => ent A i j == ent A j i) A 0 then if posN (ent A) A.length 0 then 0 else 6 else 6 := by
   unfold chkE
   rw [if_neg h1, if_neg h2, if_pos h3, if_pos h4]
  rw [e, z_loop2]
  simp only [f8_l8, ints_len hv, n_lss, decide_eq_false hlt, z_cond, cond_false]
  exact h5
 | m + 1, i, fuel, him, hf, hd => by
  obtain ⟨fuel, rfl⟩ : ∃ q, fuel = q + 1 := ⟨fuel - 1, by omega⟩
  have hlt : i < A.length := by omega
  obtain ⟨r, hr⟩ : ∃ r, A[i]? = some r := ⟨_, List.getElem?_eq_getElem hlt⟩
  rw [z_loop2]
  simp only [f8_l8, ints_len hv, n_lss, decide_eq_true hlt, z_cond, cond_true]
  rcases rchk_l10 (runQ wk tab slow K (d + 8)) K hv (by omega) hr (sq_rows h3 r (List.mem_of_getElem? hr)) (slow.loop2 (f8_l8 slow K (runQ wk tab slow K (d + 8))) fuel) A.length 0 K (by omega) (by omega) (fun t z ht => absurd ht (Nat.not_lt_zero t)) with ⟨h, z, h5, h6⟩ | ⟨h, h5⟩
  ·have h4 : ¬ outB (fun i j => smallB (ent A i j)) A 0 = true := fun hh => by
    obtain ⟨t, ht⟩ := List.getElem?_of_mem h5
    have := outB_iff.1 hh i r t hr (List.getElem?_eq_some_iff.1 ht).1
    rw [Nat.zero_add, ent_of hr ht, h6] at this
    cases this
   have e : chkE A = 3 := by
    unfold chkE
    rw [if_neg h1, if_neg h2, if_pos h3, if_neg h4]
   rw [e]
   exact ⟨H, h, Fr.refl _ _⟩
  ·obtain ⟨H', h6, f6⟩ := rchk_l8 K hK d hv h1 h2 h3 m (i + 1) fuel (by omega) (by omega) fun x r' hx hr' => by
    by_cases e : x = i
    ·subst e
     rw [hr] at hr'
     cases hr'
     exact h5
    ·exact hd x r' (by omega) hr'
   exact ⟨H', h.trans h6, f6⟩
theorem rchk_l3 (K : Nat) (hK : 3000000 < K) (d : Nat) {H : Heap} {v : SV} {A : List (List Int)} (hv : IsInts2 H v A) (h1 : ¬ A.length < 1) (h2 : ¬ 8 < A.length) : ∀ (m i fuel : Nat), i + m = A.length -> m < fuel -> (∀ (x : Nat) r, x < i -> A[x]? = some r -> r.length = A.length) ->
  ∃ H', slow.loop2 (f8_l3 slow K (runQ wk tab slow K (d + 8))) fuel v (i64 i) H = some (.int .i64 (chkE A), H') /\ Frame H H'
 | 0, i, fuel, him, hf, hd => by
  obtain ⟨fuel, rfl⟩ : ∃ q, fuel = q + 1 := ⟨fuel - 1, by omega⟩
  have hlt : ¬ i < A.length := by omega
  have h3 : sqB A = true := List.all_eq_true.2 fun r hr => by
   obtain ⟨x, hx⟩ := List.getElem?_of_mem hr
   simpa using hd x r (by have := (List.getElem?_eq_some_iff.1 hx).1; omega) hx
  obtain ⟨H', h5, f5⟩ := rchk_l8 K hK d hv h1 h2 h3 A.length 0 K (by omega) (by omega) (fun x r hx => absurd hx (Nat.not_lt_zero x))
  refine ⟨H', ?_, f5⟩
  rw [z_loop2]
  simp only [f8_l3, ints_len hv, n_lss, decide_eq_false hlt, z_cond, cond_false]
  exact h5
 | m + 1, i, fuel, him, hf, hd => by
  obtain ⟨fuel, rfl⟩ : ∃ q, fuel = q + 1 := ⟨fuel - 1, by omega⟩
  have hlt : i < A.length := by omega
  obtain ⟨r, hr⟩ : ∃ r, A[i]? = some r := ⟨_, List.getElem?_eq_getElem hlt⟩
  obtain ⟨ws, hW⟩ := IntsW.of hv
  obtain ⟨w, hw⟩ : ∃ w, ws[i]? = some w := ⟨_, List.getElem?_eq_getElem (by rw [hW.2.1]; omega)⟩
  have hld : ∀ k, slow.idx 1 v (i64 i) (fun p => slow.load 1 false p H k) = k w := fun k => hW.1.load hw .i64 k
  have hlw : ∀ k, slow.len w k = k (i64 r.length) := fun k => by rw [(hW.2.2 i w r hw hr).len]; simp [intsL]
  rw [z_loop2]
  simp only [f8_l3, ints_len hv, n_lss, decide_eq_true hlt, z_cond, cond_true, hld, hlw, n_neq]
  by_cases e : r.length = A.length
  ·have hdn : decide (r.length ≠ A.length) = false := decide_eq_false fun h => h e
   rw [hdn]
   obtain ⟨H', h6, f6⟩ := rchk_l3 K hK d hv h1 h2 m (i + 1) fuel (by omega) (by omega) fun x r' hx hr' => by
    by_cases e' : x = i
    ·subst e'
     rw [hr] at hr'
     cases hr'
     exact e
    ·exact hd x r' (by omega) hr'
   refine ⟨H', ?_, f6⟩
   simp only [cond_false, w_inc (show i < 1000000 by omega)]
   exact h6
  ·have hdn : decide (r.length ≠ A.length) = true := decide_eq_true e
   rw [hdn]
   have h3 : ¬ sqB A = true := fun h => e (sq_rows h r (List.mem_of_getElem? hr))
   have e5 : chkE A = 5 := by
    unfold chkE
    rw [if_neg h1, if_neg h2, if_neg h3]
   rw [e5]
   exact ⟨H, rfl, Fr.refl _ _⟩
theorem rchk_run (K d : Nat) (H : Heap) (v : SV) : runQ wk tab slow K (d + 9) 8 [v] H = f8 slow K (runQ wk tab slow K (d + 8)) v H := Eq.trans rfl rfl
theorem rchk_ok (K : Nat) (hK : 3000000 < K) (d : Nat) (H : Heap) {v : SV} {A : List (List Int)} (hv : IsInts2 H v A) :
  ∃ H', runQ wk tab slow K (d + 9) 8 [v] H = some (.int .i64 (chkE A), H') /\ Frame H H' := by
 rw [rchk_run]
 have g1 : ∀ k, slow.lss (i64 A.length) (.int .i64 1) k = k (.bool (decide (A.length < 1))) := fun k => n_lss k .i64 A.length 1
 have g2 : ∀ k, slow.gtr (i64 A.length) (.int .i64 8) k = k (.bool (decide (A.length > 8))) := fun k => n_gtr k .i64 A.length 8
 simp only [f8, ints_len hv, g1]
 by_cases h1 : A.length < 1
 ·have e5 : chkE A = 5 := by
   unfold chkE
   rw [if_pos h1]
  rw [decide_eq_true h1, e5]
  exact ⟨H, rfl, Fr.refl _ _⟩
 ·rw [decide_eq_false h1]
  simp only [z_guard, cond_false, g2]
  by_cases h2 : 8 < A.length
  ·have e5 : chkE A = 5 := by
    unfold chkE
    rw [if_neg h1, if_pos h2]
   rw [decide_eq_true h2, e5]
   exact ⟨H, rfl, Fr.refl _ _⟩
  ·rw [decide_eq_false h2]
   simp only [f8_j1, z_cond, cond_false]
   exact rchk_l3 K hK d hv h1 h2 A.length 0 K (by omega) (by omega) (fun x r hx => absurd hx (Nat.not_lt_zero x))
end Go.Sh.Of
