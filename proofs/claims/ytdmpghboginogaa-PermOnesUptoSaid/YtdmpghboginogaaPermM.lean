/- Contracts of the layer perm: Mul, Inverse; the statements' same, still. -/
import Derived.Test.YtdmpghboginogaaPermI
set_option linter.unusedVariables false
set_option linter.unusedSimpArgs false
namespace Go.Sh.Of
open Go

/-- Lists of slices of numbers. -/
def Arrs (H : Heap) : List SV → List (List Int) → Prop
  | [], [] => True
  | v :: vs, l :: ls => Arr H v (intsL .i64 l) ∧ Arrs H vs ls
  | _, _ => False
theorem Arrs.fr {H H' : Heap} (hf : Frame H H') : ∀ {vs : List SV} {ls : List (List Int)}, Arrs H vs ls → Arrs H' vs ls
  | [], [], _ => trivial
  | v :: vs, l :: ls, h => ⟨h.1.fr hf, Arrs.fr hf h.2⟩
  | [], _ :: _, h => h.elim
  | _ :: _, [], h => h.elim
/-- The first error of several. -/
def ckAll : List (List Int) → Int
  | [] => 0
  | l :: ls => if ckE l ≠ 0 then ckE l else ckAll ls
theorem checked_loop (K : Nat) (hK : 64 < K) (d : Nat) (H : Heap) {w : SV} {ws : List SV} (hw : Arr H w ws) (hn : ws.length < 1000000) : ∀ (rest : List SV) (ls : List (List Int)) (i fuel : Nat), ws.drop i = rest → Arrs H rest ls → rest.length < fuel →
    slow.loop3 (f24_l1 slow K (runQ wk tab slow K (d + 1))) fuel w (.int .i64 ws.length) (.int .i64 i) H = some (.int .i64 (ckAll ls), H)
  | [], [], i, fuel, hd, ha, hf => by
    obtain ⟨fuel, rfl⟩ : ∃ m, fuel = m + 1 := ⟨fuel - 1, by omega⟩
    have hi : ¬ ((i : Int) < (ws.length : Int)) := by
      have := List.drop_eq_nil_iff.1 hd
      omega
    rw [z_loop3]
    simp only [f24_l1, z_lss, decide_eq_false hi, z_cond, cond_false, ckAll]
  | v :: rest, l :: ls, i, fuel, hd, ha, hf => by
    obtain ⟨fuel, rfl⟩ : ∃ m, fuel = m + 1 := ⟨fuel - 1, by omega⟩
    obtain ⟨hx, hd', hlt, htk⟩ := drop_cons hd
    have hi : (i : Int) < (ws.length : Int) := by omega
    rw [z_loop3]
    simp only [f24_l1, z_lss, decide_eq_true hi, z_cond, cond_true, hw.load hx, check_ok K hK d H ha.1, z_call, z_neq]
    by_cases h0 : ckE l = 0
    · have : (ckE l != 0) = false := by simp [h0]
      simp only [this, cond_false]
      rw [z_add64 (by omega) (by omega)]
      have e : ((i : Int) + 1) = ((i + 1 : Nat) : Int) := by omega
      rw [e]
      have ih := checked_loop K hK d H hw hn rest ls (i + 1) fuel hd' ha.2 (by simp at hf; omega)
      simp only [ckAll, h0, ne_eq, not_true_eq_false, if_false]
      exact ih
    · have : (ckE l != 0) = true := by simp [h0]
      simp only [this, cond_true, z_rest_int, ckAll, ne_eq, h0, not_false_eq_true, if_true]
  | [], _ :: _, i, fuel, hd, ha, hf => ha.elim
  | _ :: _, [], i, fuel, hd, ha, hf => ha.elim
theorem checked_ok (K : Nat) (hK : 64 < K) (d : Nat) (H : Heap) {w : SV} {ws : List SV} {ls : List (List Int)} (hw : Arr H w ws) (hn : ws.length < K) (hn' : ws.length < 1000000) (ha : Arrs H ws ls) : runQ wk tab slow K (d + 2) 24 [w] H = some (.int .i64 (ckAll ls), H) := by
  show f24 slow K (runQ wk tab slow K (d + 1)) w H = _
  simp only [f24, hw.len]
  exact checked_loop K hK d H hw hn' ws ls 0 K rfl ha hn
/-- p, then q. -/
def doneL (p q : List Int) : List Int := p.map fun x => (q[x.toNat]?).getD 0
theorem set_next {α : Type} (xs : List α) (z y : α) (n : Nat) : (xs ++ List.replicate (n + 1) z).set xs.length y = (xs ++ [y]) ++ List.replicate n z := by
  rw [List.set_append_right _ _ (Nat.le_refl _)]
  simp [List.replicate_succ]
theorem mul_loop (C : CallC) (K : Nat) (H0 : Heap) {v q o : SV} {l m : List Int} (hv : Arr H0 v (intsL .i64 l)) (hq : Arr H0 q (intsL .i64 m)) (hl : l.length ≤ 64) (hm : ∀ x ∈ l, 0 ≤ x ∧ x < m.length) : ∀ (rest : List Int) (i fuel : Nat) (H : Heap), l.drop i = rest → rest.length < fuel → Frame H0 H → Own H0.size H o (intsL .i64 (doneL (l.take i) m) ++ List.replicate rest.length (.int .i64 0)) →
    ∃ H', slow.loop5 (f7_l3 slow K C) fuel q o v (.int .i64 l.length) (.int .i64 i) H = some (.tuple [o, .int .i64 0], H') ∧ Frame H0 H' ∧ Arr H' o (intsL .i64 (doneL l m))
  | [], i, fuel, H, hd, hf, hfr, ho => by
    obtain ⟨fuel, rfl⟩ : ∃ m, fuel = m + 1 := ⟨fuel - 1, by omega⟩
    have hle := List.drop_eq_nil_iff.1 hd
    have hi : ¬ ((i : Int) < (l.length : Int)) := by omega
    rw [List.take_of_length_le hle] at ho
    simp only [List.length_nil, List.replicate_zero, List.append_nil] at ho
    refine ⟨H, ?_, hfr, ho.arr⟩
    rw [z_loop5]
    simp only [f7_l3, z_lss, decide_eq_false hi, z_cond, cond_false, z_rest ho.arr.good]
  | x :: rest, i, fuel, H, hd, hf, hfr, ho => by
    obtain ⟨fuel, rfl⟩ : ∃ m, fuel = m + 1 := ⟨fuel - 1, by omega⟩
    obtain ⟨hx, hd', hlt, htk⟩ := drop_cons hd
    have hi : (i : Int) < (l.length : Int) := by omega
    have hxl : x ∈ l := List.mem_of_getElem? hx
    obtain ⟨hx0, hx1⟩ := hm x hxl
    have hget : (intsL .i64 l)[i]? = some (.int .i64 x) := ints_get hx
    have hv' := hv.fr hfr
    have hq' := hq.fr hfr
    obtain ⟨y, hy⟩ : ∃ y, m[x.toNat]? = some y := ⟨_, List.getElem?_eq_getElem (by omega)⟩
    have hlen : (intsL .i64 (doneL (l.take i) m)).length = i := by simp [doneL]; omega
    obtain ⟨H1, hs, ho1, hfr1, _, _⟩ := ho.store (i := i) (by rw [List.length_append, hlen]; simp) (x := .int .i64 y) rfl .i64
    rw [List.length_cons, show (intsL .i64 (doneL (l.take i) m) ++ List.replicate (rest.length + 1) (SV.int .i64 0)).set i (.int .i64 y) = (intsL .i64 (doneL (l.take i) m) ++ List.replicate (rest.length + 1) (SV.int .i64 0)).set (intsL .i64 (doneL (l.take i) m)).length (.int .i64 y) by rw [hlen], set_next] at ho1
    have e1 : intsL .i64 (doneL (l.take i) m) ++ [SV.int .i64 y] = intsL .i64 (doneL (l.take (i + 1)) m) := by
      rw [htk]; simp [doneL, hy]
    rw [e1] at ho1
    obtain ⟨H2, h3, h4, h5⟩ := mul_loop C K H0 hv hq hl hm rest (i + 1) fuel H1 hd' (by simp at hf; omega) (Fr.trans hfr hfr1) ho1
    refine ⟨H2, ?_, h4, h5⟩
    rw [z_loop5]
    simp only [f7_l3, z_lss, decide_eq_true hi, z_cond, cond_true, hv'.load hget, hq'.loadI hx0 (ints_get hy), hs]
    rw [z_add64 (by omega) (by omega)]
    have e : ((i : Int) + 1) = ((i + 1 : Nat) : Int) := by omega
    rw [e]
    exact h3
/-- What Mul answers. -/
def mulE (p q : List Int) : Int := if ckE p ≠ 0 then ckE p else if ckE q ≠ 0 then ckE q else if p.length ≠ q.length then 180 else 0
def mulL (p q : List Int) : List Int := if mulE p q = 0 then doneL p q else []
theorem mulE_zero {p q : List Int} (h : mulE p q = 0) : ckE p = 0 ∧ ckE q = 0 ∧ p.length = q.length := by
  unfold mulE at h
  split at h
  · rename_i h1; exact absurd h h1
  · rename_i h1
    split at h
    · rename_i h2; exact absurd h h2
    · rename_i h2
      split at h
      · cases h
      · rename_i h3; exact ⟨Decidable.not_not.1 h1, Decidable.not_not.1 h2, Decidable.not_not.1 h3⟩
theorem mul_ok (K : Nat) (hK : 64 < K) (d : Nat) (H : Heap) {v w : SV} {p q : List Int} (hv : Arr H v (intsL .i64 p)) (hw : Arr H w (intsL .i64 q)) :
    ∃ r H', runQ wk tab slow K (d + 3) 7 [v, w] H = some (.tuple [r, .int .i64 (mulE p q)], H') ∧ Frame H H' ∧ Arr H' r (intsL .i64 (mulL p q)) := by
  show ∃ r H', f7 slow K (runQ wk tab slow K (d + 2)) v w H = _ ∧ _
  obtain ⟨u, H1, hu, ho, hfr, _, _⟩ := z_lay2 (H := H) (lo := H.size) (Nat.le_refl _) (.slice nilSl) (.slice nilSl) hv.flat hw.flat
  have hv1 := hv.fr hfr
  have hw1 := hw.fr hfr
  simp only [f7, hu, checked_ok K hK d H1 ho.arr (by simp; omega) (by simp) (show Arrs H1 [v, w] [p, q] from ⟨hv1, hw1, trivial⟩), z_call, z_neq]
  by_cases h0 : ckAll [p, q] = 0
  · have hb : (ckAll [p, q] != 0) = false := by simp [h0]
    simp only [hb, z_cond, cond_false, alen hv1, alen hw1, z_neq]
    have hp : ckE p = 0 := by
      by_cases h : ckE p = 0
      · exact h
      · simp [ckAll, h] at h0
    have hq : ckE q = 0 := by
      by_cases h : ckE q = 0
      · exact h
      · simp [ckAll, hp, h] at h0
    by_cases h1 : p.length = q.length
    · have hb2 : ((p.length : Int) != (q.length : Int)) = false := by simp [h1]
      simp only [hb2, cond_false]
      have hpl := (ck_zero hp).1
      obtain ⟨o, H2, hm, ho2, hfr2, _, _⟩ := z_make (H := H1) (lo := H1.size) (Nat.le_refl _) 8 (.int .i64 0) p.length (by omega) (roomy_small (by omega)) .i64 .i64
      rw [hm]
      have hmul : mulE p q = 0 := by simp [mulE, hp, hq, h1]
      obtain ⟨H3, h3, h4, h5⟩ := mul_loop (runQ wk tab slow K (d + 2)) K H1 hv1 hw1 hpl (fun x hx => by rw [← h1]; exact ck_mem hp x hx) p 0 K H2 rfl (by omega) hfr2 (by simpa [doneL] using ho2)
      refine ⟨o, H3, ?_, hfr.trans h4, ?_⟩
      · rw [hmul]; exact h3
      · unfold mulL; rw [if_pos hmul]; exact h5
    · have hb2 : ((p.length : Int) != (q.length : Int)) = true := by
        simp; omega
      simp only [hb2, cond_true]
      have hmul : mulE p q = 180 := by simp [mulE, hp, hq, h1]
      refine ⟨.slice nilSl, H1, by rw [hmul], hfr, ?_⟩
      unfold mulL; rw [hmul]; exact Arr.nil _
  · have hb : (ckAll [p, q] != 0) = true := by simp [h0]
    simp only [hb, z_cond, cond_true, z_rest_int]
    have hmul : mulE p q = ckAll [p, q] := by
      by_cases hp : ckE p = 0
      · have hq : ckE q ≠ 0 := fun hq => h0 (by simp [ckAll, hp, hq])
        simp [mulE, ckAll, hp, hq]
      · simp [mulE, ckAll, hp]
    refine ⟨.slice nilSl, H1, by rw [hmul], hfr, ?_⟩
    unfold mulL; rw [hmul, if_neg h0]; exact Arr.nil _
theorem psame_loop (C : CallC) (K : Nat) (H : Heap) {v w : SV} {l m : List Int} (hv : Arr H v (intsL .i64 l)) (hw : Arr H w (intsL .i64 m)) (hl : l.length < 1000000) (he : l.length = m.length) : ∀ (rest rest' : List Int) (i fuel : Nat), l.drop i = rest → m.drop i = rest' → rest.length < fuel →
    slow.loop3 (f10_l2 slow K C) fuel v w (.int .i64 i) H = some (.bool (decide (rest = rest')), H)
  | [], rest', i, fuel, hd, hd', hf => by
    obtain ⟨fuel, rfl⟩ : ∃ m, fuel = m + 1 := ⟨fuel - 1, by omega⟩
    have hle := List.drop_eq_nil_iff.1 hd
    have hi : ¬ ((i : Int) < (l.length : Int)) := by omega
    have : rest' = [] := by rw [← hd']; exact List.drop_eq_nil_iff.2 (by omega)
    subst this
    rw [z_loop3]
    simp only [f10_l2, alen hv, z_lss, decide_eq_false hi, z_cond, cond_false]
    rfl
  | x :: rest, [], i, fuel, hd, hd', hf => by
    have := List.drop_eq_nil_iff.1 hd'
    have := (drop_cons hd).2.2.1
    omega
  | x :: rest, y :: rest', i, fuel, hd, hd', hf => by
    obtain ⟨fuel, rfl⟩ : ∃ m, fuel = m + 1 := ⟨fuel - 1, by omega⟩
    obtain ⟨hx, hd1, hlt, htk⟩ := drop_cons hd
    obtain ⟨hy, hd2, _, _⟩ := drop_cons hd'
    have hi : (i : Int) < (l.length : Int) := by omega
    rw [z_loop3]
    simp only [f10_l2, alen hv, z_lss, decide_eq_true hi, z_cond, cond_true, hv.load (ints_get hx), hw.load (ints_get hy), z_neq]
    by_cases hxy : x = y
    · have hb : (x != y) = false := by simp [hxy]
      simp only [hb, cond_false]
      rw [z_add64 (by omega) (by omega)]
      have e : ((i : Int) + 1) = ((i + 1 : Nat) : Int) := by omega
      rw [e]
      have ih := psame_loop C K H hv hw hl he rest rest' (i + 1) fuel hd1 hd2 (by simp at hf; omega)
      have e2 : decide (x :: rest = y :: rest') = decide (rest = rest') := decide_eq_decide.2 (by simp [hxy])
      rw [e2]
      exact ih
    · have hb : (x != y) = true := by simp [hxy]
      have e2 : decide (x :: rest = y :: rest') = false := decide_eq_false (by simp [hxy])
      simp only [hb, cond_true, e2]
theorem psame_ok (K : Nat) (d : Nat) (H : Heap) {v w : SV} {l m : List Int} (hv : Arr H v (intsL .i64 l)) (hw : Arr H w (intsL .i64 m)) (hl : l.length < 1000000) (hK : l.length < K) : runQ wk tab slow K (d + 1) 10 [v, w] H = some (.bool (decide (l = m)), H) := by
  show f10 slow K (runQ wk tab slow K d) v w H = _
  simp only [f10, alen hv, alen hw, z_neq]
  by_cases he : l.length = m.length
  · have hb : ((l.length : Int) != (m.length : Int)) = false := by simp [he]
    simp only [hb, z_cond, cond_false]
    exact psame_loop (runQ wk tab slow K d) K H hv hw hl he l m 0 K rfl rfl hK
  · have hb : ((l.length : Int) != (m.length : Int)) = true := by simp; omega
    have e2 : decide (l = m) = false := decide_eq_false (fun e => he (by rw [e]))
    simp only [hb, z_cond, cond_true, e2]

theorem still_loop (C : CallC) (K : Nat) (H : Heap) {v : SV} {l : List Int} (hv : Arr H v (intsL .i64 l)) (hl : l.length < 1000000) (hid : ∀ i, i < l.length → l[i]? = some (i : Int)) : ∀ (m i fuel : Nat), i + m = l.length → m < fuel →
    slow.loop2 (f11_l1 slow K C) fuel v (i64 i) H = some (.bool true, H)
  | 0, i, fuel, hd, hf => by
    obtain ⟨fuel, rfl⟩ : ∃ m, fuel = m + 1 := ⟨fuel - 1, by omega⟩
    have hi : ¬ i < l.length := by omega
    rw [z_loop2]
    simp only [f11_l1, alen hv, n_lss, decide_eq_false hi, z_cond, cond_false]
  | m + 1, i, fuel, hd, hf => by
    obtain ⟨fuel, rfl⟩ : ∃ m, fuel = m + 1 := ⟨fuel - 1, by omega⟩
    have hi : i < l.length := by omega
    rw [z_loop2]
    simp only [f11_l1, alen hv, n_lss, decide_eq_true hi, z_cond, cond_true, hv.load (ints_get (hid i hi)), z_neq, bne_self_eq_false, cond_false]
    rw [show (SV.int .i64 1) = i64 1 from rfl, n_addi _ (by omega)]
    exact still_loop C K H hv hl hid m (i + 1) fuel (by omega) (by omega)
theorem still_ok (K : Nat) (d : Nat) (H : Heap) {v : SV} {l : List Int} (hv : Arr H v (intsL .i64 l)) (hl : l.length < 1000000) (hK : l.length < K) (hid : ∀ i, i < l.length → l[i]? = some (i : Int)) : runQ wk tab slow K (d + 1) 11 [v] H = some (.bool true, H) := by
  show f11 slow K (runQ wk tab slow K d) v H = _
  simp only [f11]
  exact still_loop _ K H hv hl hid l.length 0 K (by omega) hK
/-- A list that undoes another. -/
def IsInv (p l : List Int) : Prop := l.length = p.length ∧ ∀ j x : Nat, p[j]? = some (x : Int) → l[x]? = some (j : Int)
theorem inv_loop (C : CallC) (K : Nat) {H0 : Heap} {v o : SV} {p : List Int} (hv : Arr H0 v (intsL .i64 p)) (hck : ckE p = 0) : ∀ (m i fuel : Nat) (H : Heap) (l : List Int), i + m = p.length → m < fuel → Frame H0 H → Own H0.size H o (intsL .i64 l) → l.length = p.length → (∀ j x : Nat, j < i → p[j]? = some (x : Int) → l[x]? = some (j : Int)) →
    ∃ H' l', slow.loop4 (f8_l2 slow K C) fuel o v (i64 p.length) (i64 i) H = some (.tuple [o, .int .i64 0], H') ∧ Frame H0 H' ∧ Own H0.size H' o (intsL .i64 l') ∧ IsInv p l'
  | 0, i, fuel, H, l, him, hf, hfr, ho, hl, hj => by
    obtain ⟨fuel, rfl⟩ : ∃ m, fuel = m + 1 := ⟨fuel - 1, by omega⟩
    have hi : ¬ i < p.length := by omega
    refine ⟨H, l, ?_, hfr, ho, hl, fun j x hjx => hj j x (by have := (List.getElem?_eq_some_iff.1 hjx).1; omega) hjx⟩
    rw [z_loop4]
    simp only [f8_l2, n_lss, decide_eq_false hi, z_cond, cond_false, z_rest ho.arr.good]
  | m + 1, i, fuel, H, l, him, hf, hfr, ho, hl, hj => by
    obtain ⟨fuel, rfl⟩ : ∃ m, fuel = m + 1 := ⟨fuel - 1, by omega⟩
    have hi : i < p.length := by omega
    have hp64 := (ck_zero hck).1
    obtain ⟨z, hz⟩ : ∃ z, p[i]? = some z := ⟨_, List.getElem?_eq_getElem hi⟩
    obtain ⟨z0, z1⟩ := ck_mem hck z (List.mem_of_getElem? hz)
    obtain ⟨x, rfl⟩ : ∃ x : Nat, z = x := ⟨z.toNat, by omega⟩
    obtain ⟨H1, st, ho1, f1, _, _⟩ := ho.store (i := x) (by simp; omega) (x := i64 i) rfl .i64
    rw [show (intsL .i64 l).set x (i64 i) = intsL .i64 (l.set x (i : Int)) by simp [intsL, List.map_set]] at ho1
    obtain ⟨H2, l2, h2, g2⟩ := inv_loop C K hv hck m (i + 1) fuel H1 _ (by omega) (by omega) (Fr.trans hfr f1) ho1 (by simp [hl]) (fun j y hji hjy => by
      by_cases e : j = i
      · subst e
        rw [hz] at hjy
        have : x = y := by have := Option.some.inj hjy; omega
        subst this
        rw [List.getElem?_set_self (by omega)]
      · have hne : x ≠ y := fun e2 => by
          subst e2
          exact e (ck_inj hck j i _ hjy hz)
        rw [List.getElem?_set_ne hne]
        exact hj j y (by omega) hjy)
    refine ⟨H2, l2, ?_, g2⟩
    rw [z_loop4]
    simp only [f8_l2, n_lss, decide_eq_true hi, z_cond, cond_true, (hv.fr hfr).load (ints_get hz), st]
    rw [show (SV.int .i64 1) = i64 1 from rfl, n_addi _ (by omega)]
    exact h2
theorem inv_ok (K : Nat) (hK : 1000 < K) (d : Nat) (H : Heap) {v : SV} {p : List Int} (hv : Arr H v (intsL .i64 p)) :
    ∃ r H', runQ wk tab slow K (d + 2) 8 [v] H = some (.tuple [r, .int .i64 (ckE p)], H') ∧ Frame H H' ∧ (ckE p = 0 → ∃ l, Own H.size H' r (intsL .i64 l) ∧ IsInv p l) ∧ (ckE p ≠ 0 → r = .slice nilSl) := by
  show ∃ r H', f8 slow K (runQ wk tab slow K (d + 1)) v H = _ ∧ _
  simp only [f8, check_ok K (by omega) d H hv, z_call, z_neq]
  by_cases h0 : ckE p = 0
  · have hb : (ckE p != 0) = false := by simp [h0]
    have hp64 := (ck_zero h0).1
    simp only [hb, z_cond, cond_false, alen hv]
    obtain ⟨o, H1, h1, o1, f1, _, _⟩ := z_make (H := H) (lo := H.size) (Nat.le_refl _) 8 (.int .i64 0) p.length (by omega) (roomy_small (by omega)) .i64 .i64
    rw [h1]
    have e0 : List.replicate p.length (SV.int .i64 0) = intsL .i64 (List.replicate p.length 0) := by simp [intsL]
    rw [e0] at o1
    obtain ⟨H2, l, h2, f2, o2, i2⟩ := inv_loop (runQ wk tab slow K (d + 1)) K hv h0 p.length 0 K H1 _ (by omega) (by omega) f1 o1 (by simp) (fun j x hj => by omega)
    refine ⟨o, H2, ?_, f2, fun _ => ⟨l, o2, i2⟩, fun h => absurd h0 h⟩
    rw [h0]
    exact h2
  · have hb : (ckE p != 0) = true := by simp [h0]
    simp only [hb, z_cond, cond_true, z_rest_int]
    exact ⟨_, H, rfl, Fr.refl _ _, fun h => absurd h h0, fun _ => rfl⟩
end Go.Sh.Of
