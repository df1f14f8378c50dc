/- Orbits part the points: plain words. -/
import Derived.Test.YtndfkcmobpeogaaOrbG
set_option linter.unusedVariables false
set_option linter.unusedSimpArgs false
namespace Go.Sh.Of
open Go

theorem sub_len {A B : List Nat} (hA : A.Nodup) (h : ∀ x ∈ A, x ∈ B) : A.length ≤ B.length := by
  induction A generalizing B with
  | nil => simp
  | cons a A ih =>
    rw [List.nodup_cons] at hA
    have ha := h a (by simp)
    have h1 := ih (B := B.erase a) hA.2 fun x hx => by
      have hne : x ≠ a := fun e => hA.1 (e ▸ hx)
      exact (List.mem_erase_of_ne hne).2 (h x (by simp [hx]))
    rw [List.length_erase_of_mem ha] at h1
    have := List.length_pos_of_mem ha
    simp only [List.length_cons]
    omega
theorem sub_all {A B : List Nat} (hA : A.Nodup) (h : ∀ x ∈ A, x ∈ B) (hl : B.length ≤ A.length) {b : Nat} (hb : b ∈ B) : b ∈ A := Decidable.byContradiction fun hn => by
  have h1 := sub_len (A := b :: A) (B := B) (List.nodup_cons.2 ⟨hn, hA⟩) fun x hx => by
    rcases List.mem_cons.1 hx with rfl | hx
    · exact hb
    · exact h x hx
  simp only [List.length_cons] at h1
  omega
/-- No number stands at two places. -/
def Inj (l : List Int) : Prop := ∀ (i j : Nat) (x : Int), l[i]? = some x → l[j]? = some x → i = j
theorem Inj.nodup {l : List Int} (h : Inj l) : l.Nodup := by
  unfold List.Nodup
  rw [List.pairwise_iff_getElem]
  intro i j hi hj hij e
  have := h i j l[i] (List.getElem?_eq_getElem hi) (by rw [e]; exact List.getElem?_eq_getElem hj)
  omega
theorem nodup_inj {l : List Int} (h : l.Nodup) : Inj l := fun i j x hi hj => by
  unfold List.Nodup at h
  rw [List.pairwise_iff_getElem] at h
  obtain ⟨li, ei⟩ := List.getElem?_eq_some_iff.1 hi
  obtain ⟨lj, ej⟩ := List.getElem?_eq_some_iff.1 hj
  rcases Nat.lt_trichotomy i j with hlt | e | hlt
  · exact absurd (ei.trans ej.symm) (h i j li lj hlt)
  · exact e
  · exact absurd (ej.trans ei.symm) (h j i lj li hlt)
theorem ckGo_nodup {n : Nat} : ∀ {l seen : List Int}, ckGo n l seen = true → l.Nodup ∧ ∀ x ∈ l, x ∉ seen
  | [], seen, _ => ⟨List.nodup_nil, fun x hx => by cases hx⟩
  | x :: l, seen, h => by
    unfold ckGo at h
    split at h
    · cases h
    · rename_i hx
      obtain ⟨h1, h2⟩ := ckGo_nodup h
      refine ⟨List.nodup_cons.2 ⟨fun hm => h2 x hm (by simp), h1⟩, fun y hy => ?_⟩
      rcases List.mem_cons.1 hy with rfl | hy
      · exact fun h => hx (.inr (.inr h))
      · exact fun h => h2 y hy (by simp [h])
theorem ckGo_of {n : Nat} : ∀ {l seen : List Int}, l.Nodup → (∀ x ∈ l, 0 ≤ x ∧ x < n ∧ x ∉ seen) → ckGo n l seen = true
  | [], seen, _, _ => rfl
  | x :: l, seen, h, hs => by
    rw [List.nodup_cons] at h
    obtain ⟨a, b, c⟩ := hs x (by simp)
    unfold ckGo
    rw [if_neg (by rintro (h | h | h); omega; omega; exact c h)]
    refine ckGo_of h.2 fun y hy => ?_
    obtain ⟨a', b', c'⟩ := hs y (by simp [hy])
    refine ⟨a', b', fun hm => ?_⟩
    rcases List.mem_append.1 hm with hm | hm
    · exact c' hm
    · rw [List.mem_singleton.1 hm] at hy
      exact h.1 hy
theorem ck_inj {l : List Int} (h : ckE l = 0) : Inj l := nodup_inj (ckGo_nodup (ck_zero h).2).1
theorem ck_of {l : List Int} (hl : l.length ≤ 64) (hi : Inj l) (hr : ∀ x ∈ l, 0 ≤ x ∧ x < l.length) : ckE l = 0 := by
  unfold ckE
  rw [if_neg (by omega), if_pos (ckGo_of hi.nodup fun x hx => ⟨(hr x hx).1, (hr x hx).2, by simp⟩)]
/-- Two places change. -/
theorem swap_get {l : List Int} {i k : Nat} {a b : Int} (hi : l[i]? = some a) (hk : l[k]? = some b) (j : Nat) : ((l.set i b).set k a)[j]? = l[if j = k then i else if j = i then k else j]? := by
  have h1 := (List.getElem?_eq_some_iff.1 hi).1
  have h2 := (List.getElem?_eq_some_iff.1 hk).1
  by_cases hjk : j = k
  · subst hjk
    rw [if_pos rfl, List.getElem?_set_self (by simpa using h2), hi]
  · rw [if_neg hjk, List.getElem?_set_ne (Ne.symm hjk)]
    by_cases hji : j = i
    · subst hji
      rw [if_pos rfl, List.getElem?_set_self h1, hk]
    · rw [if_neg hji, List.getElem?_set_ne (Ne.symm hji)]
theorem swap_inj {l : List Int} (h : Inj l) {i k : Nat} {a b : Int} (hi : l[i]? = some a) (hk : l[k]? = some b) : Inj ((l.set i b).set k a) := fun p q x hp hq => by
  rw [swap_get hi hk] at hp hq
  have := h _ _ x hp hq
  split at this <;> split at this <;> (try split at this) <;> (try split at this) <;> omega
theorem swap_mem {l : List Int} {i k : Nat} {a b : Int} (hi : l[i]? = some a) (hk : l[k]? = some b) {x : Int} (hx : x ∈ (l.set i b).set k a) : x ∈ l := by
  obtain ⟨j, hj⟩ := List.getElem?_of_mem hx
  rw [swap_get hi hk] at hj
  exact List.mem_of_getElem? hj
/-- What is closed ahead is closed back. -/
theorem closed_back {l : List Int} (hi : Inj l) {R : List Nat} (hR : R.Nodup) (hc : ∀ y ∈ R, ∃ k : Nat, l[y]? = some (k : Int) ∧ k ∈ R) {j k : Nat} (hj : l[j]? = some (k : Int)) (hk : k ∈ R) : j ∈ R := by
  let f : Nat → Nat := fun y => (l.getD y 0).toNat
  have hf : ∀ y k : Nat, l[y]? = some (k : Int) → f y = k := fun y k h => by simp [f, List.getD, h]
  have hinj : (R.map f).Nodup := by
    unfold List.Nodup
    rw [List.pairwise_map]
    refine List.Pairwise.imp_of_mem ?_ hR
    intro a b ha hb hab e
    obtain ⟨ka, h1, _⟩ := hc a ha
    obtain ⟨kb, h2, _⟩ := hc b hb
    rw [hf a ka h1, hf b kb h2] at e
    subst e
    exact hab (hi a b _ h1 h2)
  have hsub : ∀ x ∈ R.map f, x ∈ R := fun x hx => by
    obtain ⟨y, hy, rfl⟩ := List.mem_map.1 hx
    obtain ⟨ky, h1, h2⟩ := hc y hy
    rw [hf y ky h1]
    exact h2
  have := sub_all hinj hsub (by simp) hk
  obtain ⟨y, hy, e⟩ := List.mem_map.1 this
  obtain ⟨ky, h1, h2⟩ := hc y hy
  rw [hf y ky h1] at e
  subst e
  rw [hi j y _ hj h1]
  exact hy
theorem conn_closed {E : Nat → Nat → Prop} {R : List Nat} (h1 : ∀ i j, E i j → i ∈ R → j ∈ R) (h2 : ∀ i j, E i j → j ∈ R → i ∈ R) {i j : Nat} (c : Conn E i j) : (i ∈ R → j ∈ R) ∧ (j ∈ R → i ∈ R) := by
  induction c with
  | refl i => exact ⟨id, id⟩
  | step e => exact ⟨h1 _ _ e, h2 _ _ e⟩
  | symm _ ih => exact ⟨ih.2, ih.1⟩
  | trans _ _ a b => exact ⟨fun h => b.1 (a.1 h), fun h => a.2 (b.2 h)⟩
theorem cls_mem {F : Nat → Nat} {n r x : Nat} : x ∈ cls F n r ↔ x < n ∧ F x = r := by simp [cls]
theorem cls_sorted (F : Nat → Nat) (n r : Nat) : (cls F n r).Pairwise (· < ·) := List.Pairwise.filter _ List.pairwise_lt_range
theorem roots_sorted (F : Nat → Nat) (n : Nat) : (roots F n).Pairwise (· < ·) := List.Pairwise.filter _ List.pairwise_lt_range
theorem sorted_get {l : List Nat} (h : l.Pairwise (· < ·)) {i j x y : Nat} (hi : l[i]? = some x) (hj : l[j]? = some y) (hij : i < j) : x < y := by
  rw [List.pairwise_iff_getElem] at h
  obtain ⟨li, ei⟩ := List.getElem?_eq_some_iff.1 hi
  obtain ⟨lj, ej⟩ := List.getElem?_eq_some_iff.1 hj
  have := h i j li lj hij
  rw [ei, ej] at this
  exact this
theorem cls_nodup (F : Nat → Nat) (n r : Nat) : (cls F n r).Nodup := (cls_sorted F n r).imp fun h => Nat.ne_of_lt h
theorem cls_head {F : Nat → Nat} (hF : ∀ j, F j ≤ j) {n r : Nat} (hr : F r = r) (hn : r < n) : (cls F n r)[0]? = some r := by
  have hm : r ∈ cls F n r := cls_mem.2 ⟨hn, hr⟩
  obtain ⟨j, hj⟩ := List.getElem?_of_mem hm
  obtain ⟨x, hx⟩ : ∃ x, (cls F n r)[0]? = some x := ⟨_, List.getElem?_eq_getElem (List.length_pos_of_mem hm)⟩
  have hxm := cls_mem.1 (List.mem_of_getElem? hx)
  have := hF x
  by_cases h0 : j = 0
  · subst h0; exact hj
  · have := sorted_get (cls_sorted F n r) hx hj (by omega)
    omega
/-- What is met from one point is its orbit, when nothing more is met. -/
theorem met_len {gens : List (List Int)} {F : Nat → Nat} (hF : IsLeast gens F) {n r : Nat} (hgi : ∀ l ∈ gens, Inj l) {R : List Nat} (hR : R.Nodup) (hr : r ∈ R) (hRc : ∀ y ∈ R, y < n ∧ F y = r) (hcl : ∀ l ∈ gens, ∀ y ∈ R, ∃ k : Nat, l[y]? = some (k : Int) ∧ k ∈ R) : R.length = (cls F n r).length := by
  have h1 : ∀ i j, Epair gens i j → i ∈ R → j ∈ R := fun i j ⟨l, hl, hk⟩ hi => by
    obtain ⟨k, e, hm⟩ := hcl l hl i hi
    rw [hk] at e
    have : j = k := by have := Option.some.inj e; omega
    rw [this]; exact hm
  have h2 : ∀ i j, Epair gens i j → j ∈ R → i ∈ R := fun i j ⟨l, hl, hk⟩ hj => closed_back (hgi l hl) hR (hcl l hl) hk hj
  apply Nat.le_antisymm
  · exact sub_len hR fun x hx => cls_mem.2 (hRc x hx)
  · refine sub_len (cls_nodup F n r) fun x hx => ?_
    obtain ⟨hx1, hx2⟩ := cls_mem.1 hx
    have c := hF.2.1 x
    rw [hx2] at c
    exact (conn_closed h1 h2 c).2 hr
end Go.Sh.Of
