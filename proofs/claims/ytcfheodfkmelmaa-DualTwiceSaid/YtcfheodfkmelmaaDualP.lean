/- The inverse of a form, its level and its dual, in plain Lean. -/
import Derived.Test.YtcfheodfkmelmaaLdlA
set_option linter.unusedVariables false
set_option linter.unusedSimpArgs false
set_option exponentiation.threshold 20000
namespace Go.Sh.Of
open Go
def lcmRow (f : Nat -> Nat) : Nat -> Nat -> Nat
 | 0, a => a
 | m + 1, a => Nat.lcm (lcmRow f m a) (f m)
def lcmAll (f : Nat -> Nat -> Nat) (n : Nat) : Nat -> Nat
 | 0 => 1
 | i + 1 => lcmRow (f i) n (lcmAll f n i)
theorem lcmRow_dvd {f : Nat -> Nat} {L : Nat} : ∀ {m a : Nat}, a ∣ L -> (∀ j, j < m -> f j ∣ L) -> lcmRow f m a ∣ L
 | 0, a, h, _ => h
 | m + 1, a, h, h2 => Nat.lcm_dvd (lcmRow_dvd h fun j hj => h2 j (by omega)) (h2 m (by omega))
theorem lcmRow_base {f : Nat -> Nat} {a : Nat} : ∀ {m : Nat}, a ∣ lcmRow f m a
 | 0 => Nat.dvd_refl _
 | m + 1 => Nat.dvd_trans lcmRow_base (Nat.dvd_lcm_left _ _)
theorem lcmRow_at {f : Nat -> Nat} {a : Nat} : ∀ {m j : Nat}, j < m -> f j ∣ lcmRow f m a
 | 0, j, h => by omega
 | m + 1, j, h => by
  by_cases e : j = m
  ·subst e
   exact Nat.dvd_lcm_right _ _
  ·exact Nat.dvd_trans (lcmRow_at (by omega)) (Nat.dvd_lcm_left _ _)
theorem lcmAll_dvd {f : Nat -> Nat -> Nat} {n L : Nat} : ∀ {i : Nat}, (∀ x y, x < i -> y < n -> f x y ∣ L) -> lcmAll f n i ∣ L
 | 0, _ => Nat.one_dvd _
 | i + 1, h => lcmRow_dvd (lcmAll_dvd fun x y hx hy => h x y (by omega) hy) fun j hj => h i j (by omega) hj
theorem lcmAll_at {f : Nat -> Nat -> Nat} {n : Nat} : ∀ {i x y : Nat}, x < i -> y < n -> f x y ∣ lcmAll f n i
 | 0, x, y, h, _ => by omega
 | i + 1, x, y, h, hy => by
  by_cases e : x = i
  ·subst e
   exact lcmRow_at hy
  ·exact Nat.dvd_trans (lcmAll_at (by omega) hy) lcmRow_base
theorem lcmRow_pos {f : Nat -> Nat} {a : Nat} : ∀ {m : Nat}, 0 < a -> (∀ j, j < m -> 0 < f j) -> 0 < lcmRow f m a
 | 0, h, _ => h
 | m + 1, h, h2 => Nat.lcm_pos (lcmRow_pos h fun j hj => h2 j (by omega)) (h2 m (by omega))
theorem lcmAll_pos {f : Nat -> Nat -> Nat} {n : Nat} : ∀ {i : Nat}, (∀ x y, 0 < f x y) -> 0 < lcmAll f n i
 | 0, _ => Nat.one_pos
 | i + 1, h => lcmRow_pos (lcmAll_pos h) fun j _ => h i j
def gcdRow (f : Nat -> Nat) : Nat -> Nat -> Nat
 | 0, a => a
 | m + 1, a => Nat.gcd (gcdRow f m a) (f m)
def gcdAll (f : Nat -> Nat -> Nat) (n : Nat) : Nat -> Nat
 | 0 => 0
 | i + 1 => gcdRow (f i) n (gcdAll f n i)
theorem gcdRow_base {f : Nat -> Nat} {a : Nat} : ∀ {m : Nat}, gcdRow f m a ∣ a
 | 0 => Nat.dvd_refl _
 | m + 1 => Nat.dvd_trans (Nat.gcd_dvd_left _ _) gcdRow_base
theorem gcdRow_at {f : Nat -> Nat} {a : Nat} : ∀ {m j : Nat}, j < m -> gcdRow f m a ∣ f j
 | 0, j, h => by omega
 | m + 1, j, h => by
  by_cases e : j = m
  ·subst e
   exact Nat.gcd_dvd_right _ _
  ·exact Nat.dvd_trans (Nat.gcd_dvd_left _ _) (gcdRow_at (by omega))
theorem gcdAll_at {f : Nat -> Nat -> Nat} {n : Nat} : ∀ {i x y : Nat}, x < i -> y < n -> gcdAll f n i ∣ f x y
 | 0, x, y, h, _ => by omega
 | i + 1, x, y, h, hy => by
  by_cases e : x = i
  ·subst e
   exact gcdRow_at hy
  ·exact Nat.dvd_trans gcdRow_base (gcdAll_at (by omega) hy)
theorem gcdRow_dvd {f : Nat -> Nat} {L M : Nat} : ∀ {m a : Nat}, L ∣ M * a -> (∀ j, j < m -> L ∣ M * f j) -> L ∣ M * gcdRow f m a
 | 0, a, h, _ => h
 | m + 1, a, h, h2 => by
  show L ∣ M * Nat.gcd _ _
  rw [<- Nat.gcd_mul_left]
  exact Nat.dvd_gcd (gcdRow_dvd h fun j hj => h2 j (by omega)) (h2 m (by omega))
theorem gcdAll_dvd {f : Nat -> Nat -> Nat} {n L M : Nat} : ∀ {i : Nat}, (∀ x y, x < i -> y < n -> L ∣ M * f x y) -> L ∣ M * gcdAll f n i
 | 0, _ => by
  show L ∣ M * 0
  rw [Nat.mul_zero]
  exact Nat.dvd_zero _
 | i + 1, h => gcdRow_dvd (gcdAll_dvd fun x y hx hy => h x y (by omega) hy) fun j hj => h i j (by omega) hj
theorem den_dvd {q : Rat} {L : Nat} {z : Int} (hL : 0 < L) (h : q * (L : Rat) = (z : Rat)) : q.den ∣ L := by
 have h0 : ((L : Int) : Rat) ≠ 0 := cast_ne (by omega)
 have e : q = Rat.divInt z L := by
  rw [Rat.divInt_eq_div]
  have h' : q * ((L : Int) : Rat) = (z : Rat) := h
  grind
 obtain ⟨m, _, _, h2⟩ := Rat.divInt_num_den (n := z) (d := (L : Int)) (n' := q.num) (d' := q.den) (z' := q.den_nz) (c := q.reduced) (by omega) (by rw [<- e])
 refine Int.natCast_dvd_natCast.1 ⟨m, ?_⟩
 rw [h2, Int.mul_comm]
theorem den_mul {q : Rat} {L : Nat} (h : q.den ∣ L) : q * (L : Rat) = ((q * (L : Rat)).num : Rat) := by
 obtain ⟨k, rfl⟩ := h
 have e : q * ((q.den * k : Nat) : Rat) = ((q.num * k : Int) : Rat) := by
  have ep : q = (q.num : Rat) / ((q.den : Int) : Rat) := by rw [<- Rat.divInt_eq_div, Rat.num_divInt_den]
  have h1 : ((q.den : Int) : Rat) ≠ 0 := cast_ne (by have := q.den_pos; omega)
  have h2 : ((q.den * k : Nat) : Rat) = (((q.den : Int) * (k : Int) : Int) : Rat) := rfl
  rw [h2, Rat.intCast_mul, Rat.intCast_mul]
  conv => lhs; rw [ep]
  grind
 rw [e, Rat.num_intCast]
def qI (n : Nat) (A : Mx) (i j : Nat) : Rat := (adjM (n - 1) A i j : Rat) / (det n A : Rat)
def lvl (n : Nat) (A : Mx) : Nat := lcmAll (fun i j => (qI n A i j).den) n n
def duaM (n : Nat) (A : Mx) : Mx := fun i j => (qI n A i j * (lvl n A : Rat)).num
theorem lvl_pos (n : Nat) (A : Mx) : 0 < lvl n A := lcmAll_pos fun _ _ => Rat.den_pos _
theorem dua_eq {n : Nat} {A : Mx} (h0 : det n A ≠ 0) {i j : Nat} (hi : i < n) (hj : j < n) : det n A * duaM n A i j = (lvl n A : Int) * adjM (n - 1) A i j := by
 have h1 := den_mul (q := qI n A i j) (L := lvl n A) (lcmAll_at hi hj)
 have a := cast_ne h0
 have h2 : (det n A : Rat) * (duaM n A i j : Rat) = ((lvl n A : Int) : Rat) * (adjM (n - 1) A i j : Rat) := by
  show (det n A : Rat) * ((qI n A i j * (lvl n A : Rat)).num : Rat) = _
  rw [<- h1]
  unfold qI
  have e : (lvl n A : Rat) = ((lvl n A : Int) : Rat) := rfl
  rw [e]
  grind
 rw [<- Rat.intCast_mul, <- Rat.intCast_mul] at h2
 exact_mod_cast h2
theorem lvl_least {n : Nat} {A : Mx} (h0 : det n A ≠ 0) {L : Nat} (hL : 0 < L) (Z : Mx) (h : ∀ i j, i < n -> j < n -> det n A * Z i j = (L : Int) * adjM (n - 1) A i j) : lvl n A ∣ L := by
 refine lcmAll_dvd fun i j hi hj => den_dvd (z := Z i j) hL ?_
 have a := cast_ne h0
 have h2 : (det n A : Rat) * (Z i j : Rat) = ((L : Int) : Rat) * (adjM (n - 1) A i j : Rat) := by
  rw [<- Rat.intCast_mul, <- Rat.intCast_mul, h i j hi hj]
 unfold qI
 have e : (L : Rat) = ((L : Int) : Rat) := rfl
 rw [e]
 grind
theorem adj_right {n : Nat} (hn : 0 < n) (A : Mx) {i j : Nat} (hi : i < n) (hj : j < n) : mulX n A (adjM (n - 1) A) i j = if i = j then det n A else 0 := by
 obtain ⟨m, rfl⟩ : ∃ m, n = m + 1 := ⟨n - 1, by omega⟩
 exact mul_adj A hi hj
theorem adj_left {n : Nat} (hn : 0 < n) (A : Mx) {i j : Nat} (hi : i < n) (hj : j < n) : mulX n (adjM (n - 1) A) A i j = if i = j then det n A else 0 := by
 obtain ⟨m, rfl⟩ : ∃ m, n = m + 1 := ⟨n - 1, by omega⟩
 exact adj_mul A hi hj
theorem int_cancel {a b c : Int} (h : a ≠ 0) (e : a * b = a * c) : b = c := Int.eq_of_mul_eq_mul_left h e
theorem mul_dua {n : Nat} (hn : 0 < n) {A : Mx} (h0 : det n A ≠ 0) {i j : Nat} (hi : i < n) (hj : j < n) : mulX n A (duaM n A) i j = if i = j then (lvl n A : Int) else 0 := by
 refine int_cancel h0 ?_
 have h1 : det n A * mulX n A (duaM n A) i j = (lvl n A : Int) * mulX n A (adjM (n - 1) A) i j := by
  unfold mulX
  rw [<- sumZ_mul, <- sumZ_mul]
  refine sumZ_congr fun t ht => ?_
  have e := dua_eq h0 ht hj
  calc det n A * (A i t * duaM n A t j) = A i t * (det n A * duaM n A t j) := by ac_rfl
   _ = A i t * ((lvl n A : Int) * adjM (n - 1) A t j) := by rw [e]
   _ = (lvl n A : Int) * (A i t * adjM (n - 1) A t j) := by ac_rfl
 rw [h1, adj_right hn A hi hj]
 by_cases e : i = j
 ·rw [if_pos e, if_pos e, Int.mul_comm]
 ·rw [if_neg e, if_neg e, Int.mul_zero, Int.mul_zero]
theorem adj_sym {n : Nat} {A : Mx} (hs : Sym n A) {i j : Nat} (hi : i < n) (hj : j < n) : adjM (n - 1) A i j = adjM (n - 1) A j i := by
 obtain ⟨m, rfl⟩ : ∃ m, n = m + 1 := ⟨n - 1, by omega⟩
 show alt (i + j) * det m (minor2 A j i) = alt (j + i) * det m (minor2 A i j)
 rw [Nat.add_comm j i, <- det_tr m (minor2 A i j)]
 congr 1
 refine det_congr fun x y hx hy => ?_
 show A (skip j x) (skip i y) = A (skip i y) (skip j x)
 exact hs _ _ (skip_lt hx) (skip_lt hy)
theorem dua_sym {n : Nat} {A : Mx} (hs : Sym n A) (h0 : det n A ≠ 0) : Sym n (duaM n A) := fun i j hi hj => by
 refine int_cancel h0 ?_
 rw [dua_eq h0 hi hj, dua_eq h0 hj hi, adj_sym hs hi hj]
theorem dua_bil {n : Nat} (hn : 0 < n) {A : Mx} (h0 : det n A ≠ 0) (x : Nat -> Int) : (∀ i, i < n -> sumZ n (fun j => A i j * sumZ n fun k => duaM n A j k * x k) = (lvl n A : Int) * x i) := fun i hi => by
 have h1 : sumZ n (fun j => A i j * sumZ n fun k => duaM n A j k * x k) = sumZ n fun k => mulX n A (duaM n A) i k * x k := by
  have e1 : sumZ n (fun j => A i j * sumZ n fun k => duaM n A j k * x k) = sumZ n fun j => sumZ n fun k => A i j * (duaM n A j k * x k) := sumZ_congr fun j _ => by rw [<- sumZ_mul]
  rw [e1, sumZ_swap]
  refine sumZ_congr fun k hk => ?_
  unfold mulX
  rw [Int.mul_comm, <- sumZ_mul]
  refine sumZ_congr fun j hj => ?_
  ac_rfl
 rw [h1, sumZ_one (i := i) hi fun k hk hne => by rw [mul_dua hn h0 hi hk, if_neg (Ne.symm hne), Int.zero_mul], mul_dua hn h0 hi hi, if_pos rfl]
theorem dua_pd {n : Nat} (hn : 0 < n) {A : Mx} (hp : Pd n A) (h0 : det n A ≠ 0) : Pd n (duaM n A) := fun x => by
 have hy := dua_bil hn h0 x
 have hN := lvl_pos n A
 obtain ⟨p1, p2⟩ := hp fun j => sumZ n fun k => duaM n A j k * x k
 have key : bil n A (fun j => sumZ n fun k => duaM n A j k * x k) (fun j => sumZ n fun k => duaM n A j k * x k) = (lvl n A : Int) * bil n (duaM n A) x x := by
  unfold bil
  rw [<- sumZ_mul]
  refine sumZ_congr fun i hi => ?_
  rw [sumZ_mul, sumZ_mul, hy i hi]
  show (sumZ n fun k => duaM n A i k * x k) * ((lvl n A : Int) * x i) = (lvl n A : Int) * (x i * sumZ n fun k => duaM n A i k * x k)
  generalize (sumZ n fun k => duaM n A i k * x k) = S
  ac_rfl
 rw [key] at p1 p2
 refine ⟨Int.nonneg_of_mul_nonneg_right p1 (by omega), fun h i hi => ?_⟩
 have h3 := p2 (by rw [h, Int.mul_zero])
 have h4 := hy i hi
 rw [sumZ_zero fun j hj => by rw [h3 j hj, Int.mul_zero]] at h4
 rcases Int.mul_eq_zero.1 h4.symm with h5 | h5
 ·omega
 ·exact h5
def content (n : Nat) (A : Mx) : Nat := gcdAll (fun i j => (A i j).natAbs) n n
theorem content_pos {n : Nat} (hn : 0 < n) {A : Mx} (h : 0 < A 0 0) : 0 < content n A := by
 have h1 : content n A ∣ (A 0 0).natAbs := gcdAll_at (f := fun i j => (A i j).natAbs) hn hn
 exact Nat.pos_of_dvd_of_pos h1 (by omega)
theorem dual_twice {n : Nat} (hn : 0 < n) {A : Mx} (hs : Sym n A) (hp : Pd n A) (hd : det n A ≠ 0) (hd2 : det n (duaM n A) ≠ 0) (h00 : 0 < A 0 0) : lvl n (duaM n A) * content n A = lvl n A /\ ∀ i j, i < n -> j < n -> duaM n (duaM n A) i j * (content n A : Int) = A i j := by
 have hN := lvl_pos n A
 have hM := lvl_pos n (duaM n A)
 have hc := content_pos hn h00
 have hdiv : ∀ i j, i < n -> j < n -> ∃ t : Int, A i j = (content n A : Int) * t := fun i j hi hj => by
  have h1 : content n A ∣ (A i j).natAbs := gcdAll_at (f := fun i j => (A i j).natAbs) hi hj
  exact Int.ofNat_dvd_left.2 h1
 have hsd := dua_sym hs hd
 have hDA : ∀ i j, i < n -> j < n -> mulX n (duaM n A) A i j = if i = j then (lvl n A : Int) else 0 := fun i j hi hj => by
  have h1 := mul_dua hn hd hj hi
  have e : mulX n (duaM n A) A i j = mulX n A (duaM n A) j i := sumZ_congr fun t ht => by rw [hsd i t hi ht, hs t j ht hj, Int.mul_comm]
  rw [e, h1]
  by_cases h : i = j
  ·rw [if_pos h, if_pos h.symm]
  ·rw [if_neg h, if_neg (Ne.symm h)]
 have hadj : ∀ i j, i < n -> j < n -> det n (duaM n A) * A i j = (lvl n A : Int) * adjM (n - 1) (duaM n A) i j := fun i j hi hj => by
  have h1 := mulX_assoc n (adjM (n - 1) (duaM n A)) (duaM n A) A i j
  have h2 : mulX n (mulX n (adjM (n - 1) (duaM n A)) (duaM n A)) A i j = det n (duaM n A) * A i j := by
   unfold mulX
   rw [sumZ_one (i := i) hi fun t ht hne => by
    have := adj_left hn (duaM n A) hi ht
    unfold mulX at this
    rw [this, if_neg (Ne.symm hne), Int.zero_mul]]
   have := adj_left hn (duaM n A) hi hi
   unfold mulX at this
   rw [this, if_pos rfl]
  have h3 : mulX n (adjM (n - 1) (duaM n A)) (mulX n (duaM n A) A) i j = (lvl n A : Int) * adjM (n - 1) (duaM n A) i j := by
   show sumZ n _ = _
   rw [sumZ_one (i := j) hj fun t ht hne => by rw [hDA t j ht hj, if_neg hne, Int.mul_zero], hDA j j hj hj, if_pos rfl, Int.mul_comm]
  rw [<- h2, h1, h3]
 have hNB : ∀ i j, i < n -> j < n -> (lvl n A : Int) * duaM n (duaM n A) i j = (lvl n (duaM n A) : Int) * A i j := fun i j hi hj => by
  have h1 := dua_eq hd2 hi hj
  refine int_cancel hd2 ?_
  calc det n (duaM n A) * ((lvl n A : Int) * duaM n (duaM n A) i j) = (lvl n A : Int) * (det n (duaM n A) * duaM n (duaM n A) i j) := by ac_rfl
   _ = (lvl n A : Int) * ((lvl n (duaM n A) : Int) * adjM (n - 1) (duaM n A) i j) := by rw [h1]
   _ = (lvl n (duaM n A) : Int) * ((lvl n A : Int) * adjM (n - 1) (duaM n A) i j) := by ac_rfl
   _ = (lvl n (duaM n A) : Int) * (det n (duaM n A) * A i j) := by rw [hadj i j hi hj]
   _ = det n (duaM n A) * ((lvl n (duaM n A) : Int) * A i j) := by ac_rfl
 have hcN : content n A ∣ lvl n A := by
  have h1 := mul_dua hn hd hn hn
  rw [if_pos rfl] at h1
  have h2 : (content n A : Int) ∣ (lvl n A : Int) := by
   rw [<- h1]
   have : ∀ m, m <= n -> (content n A : Int) ∣ sumZ m fun t => A 0 t * duaM n A t 0 := by
    intro m
    induction m with
    | zero => intro _; exact Int.dvd_zero _
    | succ m ih =>
     intro hm
     obtain ⟨t, ht⟩ := hdiv 0 m hn (by omega)
     have e : (sumZ (m + 1) fun t => A 0 t * duaM n A t 0) = (sumZ m fun t => A 0 t * duaM n A t 0) + A 0 m * duaM n A m 0 := rfl
     rw [e]
     refine Int.dvd_add (ih (by omega)) ?_
     rw [ht, Int.mul_assoc]
     exact Int.dvd_mul_right _ _
   exact this n (Nat.le_refl _)
  exact Int.natCast_dvd_natCast.1 h2
 obtain ⟨L, hL⟩ := hcN
 have hL0 : 0 < L := Nat.pos_of_ne_zero fun e => by rw [e, Nat.mul_zero] at hL; omega
 have h5 : lvl n (duaM n A) ∣ L := lvl_least hd2 hL0 (fun i j => A i j / (content n A : Int)) fun i j hi hj => by
  obtain ⟨t, ht⟩ := hdiv i j hi hj
  have h6 := hadj i j hi hj
  have hc0 : (content n A : Int) ≠ 0 := by omega
  show det n (duaM n A) * (A i j / (content n A : Int)) = _
  rw [ht, Int.mul_ediv_cancel_left _ hc0]
  rw [ht, hL, Int.natCast_mul] at h6
  refine int_cancel hc0 ?_
  calc (content n A : Int) * (det n (duaM n A) * t) = det n (duaM n A) * ((content n A : Int) * t) := by ac_rfl
   _ = (content n A : Int) * (L : Int) * adjM (n - 1) (duaM n A) i j := h6
   _ = (content n A : Int) * ((L : Int) * adjM (n - 1) (duaM n A) i j) := by ac_rfl
 have h7 : lvl n A ∣ lvl n (duaM n A) * content n A := gcdAll_dvd fun i j hi hj => by
  have h8 := hNB i j hi hj
  have h9 : (lvl n A : Int) ∣ (lvl n (duaM n A) : Int) * A i j := ⟨_, h8.symm⟩
  have := Int.natAbs_dvd_natAbs.2 h9
  rw [Int.natAbs_mul, Int.natAbs_natCast, Int.natAbs_natCast] at this
  exact this
 have h10 : lvl n (duaM n A) * content n A ∣ lvl n A := by
  rw [hL, Nat.mul_comm]
  exact Nat.mul_dvd_mul_left _ h5
 have h11 := Nat.dvd_antisymm h10 h7
 refine ⟨h11, fun i j hi hj => ?_⟩
 have h12 := hNB i j hi hj
 rw [<- h11, Int.natCast_mul] at h12
 refine int_cancel (a := (lvl n (duaM n A) : Int)) (by omega) ?_
 rw [<- h12]
 ac_rfl
end Go.Sh.Of
