/- Shuffled lists, and the statement of orbits that part the points: what is laid down. -/
import Derived.Test.YtndfkcmobpeogaaOrbH
set_option linter.unusedVariables false
set_option linter.unusedSimpArgs false
namespace Go.Sh.Of
open Go

theorem nats_ints (U : List Nat) : natsL U = intsL .i64 (U.map fun (n : Nat) => (n : Int)) := by
  simp only [natsL, intsL, List.map_map]
  rfl
theorem sh_swap (K : Nat) (C : CallC) {H0 : Heap} {n : Nat} (h1 : 0 < n) (hn : n ≤ 64) {a v : SV} {p : List Int} (ha : Arr H0 a (intsL .u8 p)) (hp : ∀ x ∈ p, 0 ≤ x ∧ x < 256) : ∀ (m i fuel : Nat) (H : Heap) (l : List Int), i + m = n → m < fuel → Frame H0 H → Own H0.size H v (intsL .i64 l) → l.length = n → Inj l → (∀ x ∈ l, 0 ≤ x ∧ x < n) →
    ∃ H' l', slow.loop4 (f9_l5 slow K C) fuel a (i64 n) v (i64 i) H = some (v, H') ∧ Frame H0 H' ∧ Own H0.size H' v (intsL .i64 l') ∧ l'.length = n ∧ Inj l' ∧ ∀ x ∈ l', 0 ≤ x ∧ x < n
  | 0, i, fuel, H, l, him, hf, hfr, ho, hl, hi, hm => by
    obtain ⟨fuel, rfl⟩ : ∃ m, fuel = m + 1 := ⟨fuel - 1, by omega⟩
    have hin : ¬ i < n := by omega
    refine ⟨H, l, ?_, hfr, ho, hl, hi, hm⟩
    rw [z_loop4]
    simp only [f9_l5, n_lss, decide_eq_false hin, z_guard, cond_false, f9_j6, z_cond, z_rest ho.arr.good]
  | m + 1, i, fuel, H, l, him, hf, hfr, ho, hl, hi, hm => by
    obtain ⟨fuel, rfl⟩ : ∃ m, fuel = m + 1 := ⟨fuel - 1, by omega⟩
    have hin : i < n := by omega
    by_cases hip : i < p.length
    · obtain ⟨x, hx⟩ : ∃ x, p[i]? = some x := ⟨_, List.getElem?_eq_getElem hip⟩
      obtain ⟨x0, x1⟩ := hp x (List.mem_of_getElem? hx)
      obtain ⟨b, rfl⟩ : ∃ b : Nat, x = b := ⟨x.toNat, by omega⟩
      have hk : b % n < n := Nat.mod_lt _ h1
      obtain ⟨y, hy⟩ : ∃ y, l[i]? = some y := ⟨_, List.getElem?_eq_getElem (by omega)⟩
      obtain ⟨z, hz⟩ : ∃ z, l[b % n]? = some z := ⟨_, List.getElem?_eq_getElem (by omega)⟩
      obtain ⟨H1, st1, ho1, f1, sz1, hro1⟩ := ho.store (i := i) (by simp; omega) (x := .int .i64 z) rfl .i64
      obtain ⟨H2, st2, ho2, f2, sz2, hro2⟩ := ho1.store (i := b % n) (by simp; omega) (x := .int .i64 y) rfl .i64
      rw [show ((intsL .i64 l).set i (.int .i64 z)).set (b % n) (.int .i64 y) = intsL .i64 ((l.set i z).set (b % n) y) by simp [intsL, List.map_set]] at ho2
      obtain ⟨H3, l3, h3, g3⟩ := sh_swap K C h1 hn ha hp m (i + 1) fuel H2 _ (by omega) (by omega) (Fr.trans hfr (Fr.trans f1 f2)) ho2 (by simp [hl]) (swap_inj hi hy hz) (fun x hx => hm x (swap_mem hy hz hx))
      refine ⟨H3, l3, ?_, g3⟩
      rw [z_loop4]
      simp only [f9_l5, n_lss, decide_eq_true hin, z_guard, cond_true, alen (ha.fr hfr), decide_eq_true hip, f9_j6, z_cond, (ha.fr hfr).load (ints_get hx), n_convi _ .u8 b (by omega), n_rem _ .i64 b (Nat.pos_iff_ne_zero.1 h1), ho.arr.load (ints_get hy), ho.arr.load (ints_get hz), st1, st2]
      rw [show (SV.int .i64 1) = i64 1 from rfl, n_addi _ (by omega)]
      exact h3
    · refine ⟨H, l, ?_, hfr, ho, hl, hi, hm⟩
      rw [z_loop4]
      simp only [f9_l5, n_lss, decide_eq_true hin, z_guard, cond_true, alen (ha.fr hfr), decide_eq_false hip, f9_j6, z_cond, cond_false, z_rest ho.arr.good]
theorem sh_init (K : Nat) (C : CallC) {H0 : Heap} {n : Nat} (hn : n ≤ 64) {v a : SV} : ∀ (m i fuel : Nat) (H : Heap), i + m = n → m < fuel → Frame H0 H → Own H0.size H v (natsL (upTo n i)) →
    ∃ H', slow.loop4 (f9_l1 slow K C) fuel a (i64 n) v (i64 i) H = slow.loop4 (f9_l5 slow K C) K a (i64 n) v (i64 0) H' ∧ Frame H0 H' ∧ Own H0.size H' v (natsL (List.range n))
  | 0, i, fuel, H, him, hf, hfr, ho => by
    obtain ⟨fuel, rfl⟩ : ∃ m, fuel = m + 1 := ⟨fuel - 1, by omega⟩
    have hi : i = n := by omega
    subst hi
    rw [upTo_all] at ho
    refine ⟨H, ?_, hfr, ho⟩
    rw [z_loop4]
    have hlt : ¬ i < i := Nat.lt_irrefl i
    simp only [f9_l1, n_lss, decide_eq_false hlt, z_cond, cond_false]
    rfl
  | m + 1, i, fuel, H, him, hf, hfr, ho => by
    obtain ⟨fuel, rfl⟩ : ∃ m, fuel = m + 1 := ⟨fuel - 1, by omega⟩
    have hi : i < n := by omega
    obtain ⟨H1, st, ho1, f1, sz1, hro⟩ := ho.store (i := i) (by rw [natsL_len, upTo_len (by omega)]; exact hi) (x := i64 i) rfl .i64
    rw [natsL_set, upTo_set hi] at ho1
    obtain ⟨H2, h2, f2, ho2⟩ := sh_init K C hn m (i + 1) fuel H1 (by omega) (by omega) (Fr.trans hfr f1) ho1
    refine ⟨H2, ?_, f2, ho2⟩
    rw [z_loop4]
    simp only [f9_l1, n_lss, decide_eq_true hi, z_cond, cond_true, st]
    rw [show (SV.int .i64 1) = i64 1 from rfl, n_addi _ (by omega)]
    exact h2
theorem range_inj (n : Nat) : Inj ((List.range n).map fun (k : Nat) => (k : Int)) := fun i j x hi hj => by
  simp only [List.getElem?_map, List.getElem?_range'] at hi hj
  obtain ⟨a, h1, h2⟩ := Option.map_eq_some_iff.1 hi
  obtain ⟨b, h3, h4⟩ := Option.map_eq_some_iff.1 hj
  obtain ⟨l1, e1⟩ := List.getElem?_eq_some_iff.1 h1
  obtain ⟨l2, e2⟩ := List.getElem?_eq_some_iff.1 h3
  simp only [List.getElem_range] at e1 e2
  omega
theorem shuf_ok (K : Nat) (hK : 1000 < K) (d : Nat) (H : Heap) {n : Nat} (h1 : 0 < n) (hn : n ≤ 64) {a : SV} {p : List Int} (ha : Arr H a (intsL .u8 p)) (hp : ∀ x ∈ p, 0 ≤ x ∧ x < 256) :
    ∃ r H' l, runQ wk tab slow K (d + 1) 9 [a, i64 n] H = some (r, H') ∧ Frame H H' ∧ Own H.size H' r (intsL .i64 l) ∧ l.length = n ∧ ckE l = 0 := by
  obtain ⟨v, H1, g1, o1, f1, in1, sz1⟩ := z_make (H := H) (lo := H.size) (Nat.le_refl _) 8 (.int .i64 0) n (by omega) (roomy_small (by omega)) .i64 .i64
  have e0 : List.replicate n (SV.int .i64 0) = natsL (upTo n 0) := by simp [natsL, upTo]
  rw [e0] at o1
  obtain ⟨H2, g2, f2, o2⟩ := sh_init K (runQ wk tab slow K d) (a := a) hn n 0 K H1 (by omega) (by omega) f1 o1
  rw [nats_ints] at o2
  obtain ⟨H3, l, g3, f3, o3, l3, i3, m3⟩ := sh_swap K (runQ wk tab slow K d) h1 hn ha hp n 0 K H2 _ (by omega) (by omega) f2 o2 (by simp) (range_inj n) (fun x hx => by
    obtain ⟨k, hk, rfl⟩ := List.mem_map.1 hx
    have := List.mem_range.1 hk
    omega)
  refine ⟨v, H3, l, ?_, f3, o3, l3, ck_of (by omega) i3 (by rw [l3]; exact m3)⟩
  show f9 slow K (runQ wk tab slow K d) a (i64 n) H = _
  simp only [f9, g1]
  rw [show (SV.int .i64 0) = i64 0 from rfl, g2]
  exact g3

/-! ### What is known of the orbits -/
theorem orb_at {F : Nat → Nat} {n q : Nat} {l : List Nat} (h : (orbsTo F n)[q]? = some l) : ∃ r, (roots F n)[q]? = some r ∧ l = cls F n r ∧ F r = r ∧ r < n := by
  unfold orbsTo at h
  rw [List.getElem?_map] at h
  obtain ⟨r, h1, h2⟩ := Option.map_eq_some_iff.1 h
  obtain ⟨a, b⟩ := roots_lt (List.mem_of_getElem? h1)
  exact ⟨r, h1, h2.symm, b, a⟩
theorem orb_one {F : Nat → Nat} {n p q x : Nat} {l m : List Nat} (h1 : (orbsTo F n)[p]? = some l) (h2 : (orbsTo F n)[q]? = some m) (hx : x ∈ l) (hy : x ∈ m) : p = q := by
  obtain ⟨r, a1, rfl, a3, a4⟩ := orb_at h1
  obtain ⟨s, b1, rfl, b3, b4⟩ := orb_at h2
  have e : r = s := (cls_mem.1 hx).2.symm.trans (cls_mem.1 hy).2
  subst e
  rw [roots_at a1, roots_at b1]
theorem least_idem {gens : List (List Int)} {F : Nat → Nat} (hF : IsLeast gens F) (x : Nat) : F (F x) = F x := ((hF.2.1 x).const fun i j e => hF.2.2 i j e).symm
theorem orb_of {gens : List (List Int)} {F : Nat → Nat} (hF : IsLeast gens F) {n x : Nat} (hx : x < n) : (orbsTo F n)[(roots F (F x)).length]? = some (cls F n (F x)) := orbs_get (least_idem hF x) (Nat.lt_of_le_of_lt (hF.1 x) hx)
/-- The state while points are given their orbit's number. -/
structure PInv (F : Nat → Nat) (n i : Nat) (s : List Nat) (M : List Int) : Prop where
  len : M.length = n
  old : ∀ (q : Nat) l x, q < i → (orbsTo F n)[q]? = some l → x ∈ l → M[x]? = some (q : Int)
  cur : ∀ x ∈ s, M[x]? = some (i : Int)
  new : ∀ x, x < n → (∀ (q : Nat) l, q < i → (orbsTo F n)[q]? = some l → x ∉ l) → x ∉ s → M[x]? = some (-1)
theorem PInv.start {F : Nat → Nat} {n : Nat} {M : List Int} (h : M.length = n) (h1 : ∀ j, j < n → M[j]? = some (-1)) : PInv F n 0 [] M := ⟨h, fun q l x hq => by omega, fun x hx => (by cases hx), fun x hx _ _ => h1 x hx⟩
theorem PInv.step {F : Nat → Nat} {n i : Nat} {s : List Nat} {M : List Int} (h : PInv F n i s M) {l : List Nat} (hl : (orbsTo F n)[i]? = some l) {y : Nat} (hy : y ∈ l) (hs : y ∉ s) : M[y]? = some (-1) ∧ PInv F n i (s ++ [y]) (M.set y (i : Int)) := by
  obtain ⟨r, _, e, _, _⟩ := orb_at hl
  have hyn : y < n := by rw [e] at hy; exact (cls_mem.1 hy).1
  refine ⟨h.new y hyn (fun q l' hq hl' hm => ?_) hs, by rw [List.length_set]; exact h.len, fun q l' x hq hl' hx => ?_, fun x hx => ?_, fun x hx h1 h2 => ?_⟩
  · have := orb_one hl hl' hy hm
    omega
  · have hne : y ≠ x := fun e => by
      subst e
      have := orb_one hl hl' hy hx
      omega
    rw [List.getElem?_set_ne hne]
    exact h.old q l' x hq hl' hx
  · by_cases hxy : y = x
    · subst hxy
      rw [List.getElem?_set_self (by rw [h.len]; exact hyn)]
    · rw [List.getElem?_set_ne hxy]
      rcases List.mem_append.1 hx with hx | hx
      · exact h.cur x hx
      · exact absurd (List.mem_singleton.1 hx).symm hxy
  · have hne : y ≠ x := fun e => h2 (by simp [e])
    rw [List.getElem?_set_ne hne]
    exact h.new x hx h1 fun hm => h2 (by simp [hm])
theorem PInv.next {F : Nat → Nat} {n i : Nat} {M : List Int} {l : List Nat} (hl : (orbsTo F n)[i]? = some l) (h : PInv F n i l M) : PInv F n (i + 1) [] M := ⟨h.len, fun q l' x hq hl' hx => by
    by_cases e : q = i
    · subst e
      rw [hl] at hl'
      cases hl'
      exact h.cur x hx
    · exact h.old q l' x (by omega) hl' hx, fun x hx => (by cases hx), fun x hx h1 _ => h.new x hx (fun q l' hq hl' => h1 q l' (by omega) hl') (h1 i l (by omega) hl)⟩
theorem PInv.all {gens : List (List Int)} {F : Nat → Nat} (hF : IsLeast gens F) {n : Nat} {M : List Int} (h : PInv F n (orbsTo F n).length [] M) {x : Nat} (hx : x < n) : M[x]? = some ((roots F (F x)).length : Int) := by
  have h1 := orb_of hF hx
  exact h.old _ _ x (List.getElem?_eq_some_iff.1 h1).1 h1 (cls_mem.2 ⟨hx, rfl⟩)
end Go.Sh.Of
