/- The program's Ldl: contracts of gram.square of fractions and of gram.Ldl. -/
import Derived.Test.YtfjgbobjpjkamaaGWork
import Derived.Test.YtfjgbobjpjkamaaRatA
import Derived.Test.YtfjgbobjpjkamaaLdlP
set_option linter.unusedVariables false
set_option linter.unusedSimpArgs false
set_option exponentiation.threshold 20000
namespace Go.Sh.Of
open Go Go.Sh
def QM (q : Rat) : Prop := q.num.natAbs <= 2 ^ 136 /\ q.den <= 2 ^ 136
theorem QM.qs {q : Rat} (h : QM q) : QS q := by
 have : 2 ^ 136 < 2 ^ 1500 := Nat.pow_lt_pow_right (by decide) (by decide)
 exact ⟨Nat.lt_of_le_of_lt h.1 this, Nat.lt_of_le_of_lt h.2 this⟩
theorem QM.quot {p q : Int} (hp : p.natAbs <= 2 ^ 136) (hq : q.natAbs <= 2 ^ 136) (h0 : q ≠ 0) : QM ((p : Rat) / (q : Rat)) := by
 have h := quot_le (p := p) h0
 exact ⟨Nat.le_trans h.1 hp, Nat.le_trans h.2 hq⟩
theorem QM.mul {p q : Rat} (hp : QM p) (hq : QM q) : QS (p * q) := by
 have hd0 : ((p.den : Int) * (q.den : Int)) ≠ 0 := by
  have h1 := p.den_pos
  have h2 := q.den_pos
  exact Int.ne_of_gt (Int.mul_pos (by omega) (by omega))
 have e : p * q = ((p.num * q.num : Int) : Rat) / (((p.den : Int) * (q.den : Int) : Int) : Rat) := by
  have h1 : ((p.den : Int) : Rat) ≠ 0 := cast_ne (by have := p.den_pos; omega)
  have h2 : ((q.den : Int) : Rat) ≠ 0 := cast_ne (by have := q.den_pos; omega)
  have ep : p = (p.num : Rat) / ((p.den : Int) : Rat) := by rw [<- Rat.divInt_eq_div, Rat.num_divInt_den]
  have eq : q = (q.num : Rat) / ((q.den : Int) : Rat) := by rw [<- Rat.divInt_eq_div, Rat.num_divInt_den]
  generalize p.num = a at *
  generalize (p.den : Int) = b at *
  generalize q.num = a' at *
  generalize (q.den : Int) = b' at *
  rw [ep, eq, Rat.intCast_mul, Rat.intCast_mul]
  grind
 have hl := quot_le (p := p.num * q.num) hd0
 rw [<- e] at hl
 have hb : 2 ^ 136 * 2 ^ 136 < 2 ^ 1500 := by
  rw [<- Nat.pow_add]
  exact Nat.pow_lt_pow_right (by decide) (by decide)
 refine ⟨Nat.lt_of_le_of_lt (Nat.le_trans hl.1 ?_) hb, Nat.lt_of_le_of_lt (Nat.le_trans hl.2 ?_) hb⟩
 ·rw [Int.natAbs_mul]
  exact Nat.mul_le_mul hp.1 hq.1
 ·rw [Int.natAbs_mul, Int.natAbs_natCast, Int.natAbs_natCast]
  exact Nat.mul_le_mul hp.2 hq.2
theorem QM.int {z : Int} (h : z.natAbs <= 2 ^ 136) : QM (z : Rat) := ⟨by rw [Rat.num_intCast]; exact h, by rw [Rat.den_intCast]; exact Nat.one_le_two_pow⟩
theorem minor_le {A : List (List Int)} (hs : Sq A) {s : Nat} (h : s <= 8) {M : Mx} (hM : ∀ i k, i < s -> k < s -> (M i k).natAbs <= 16384) : (det s M).natAbs <= 2 ^ 136 := by
 have h1 := det_abs (N := 8) (c := 16384) h hM
 refine Nat.le_trans h1 ?_
 rw [show 8 * 16384 = 2 ^ 17 from rfl, <- Nat.pow_mul]
 exact Nat.pow_le_pow_right (by decide) (by omega)
theorem corner_le {A : List (List Int)} (hs : Sq A) {k : Nat} (hk : k <= A.length) : (det k (ent A)).natAbs <= 2 ^ 136 := by
 have h8 := hs.n8
 refine minor_le hs (by omega) fun i j hi hj => ?_
 obtain ⟨r, _, _, h1, h2⟩ := hs.at (show i < A.length by omega) (show j < A.length by omega)
 omega
theorem bI_le {A : List (List Int)} (hs : Sq A) {k i j : Nat} (hk : k < A.length) (hi : i < A.length) (hj : j < A.length) : (bI k (ent A) i j).natAbs <= 2 ^ 136 := by
 have h8 := hs.n8
 refine minor_le hs (by omega) fun x y hx hy => ?_
 show (ent A (if x < k then x else i) (if y < k then y else j)).natAbs <= _
 obtain ⟨r, _, _, h1, h2⟩ := hs.at (show (if x < k then x else i) < A.length by split <;> omega) (show (if y < k then y else j) < A.length by split <;> omega)
 omega
theorem Form.nz {A : List (List Int)} (hF : Form A) {k : Nat} (hk : k <= A.length) : det k (ent A) ≠ 0 := by
 by_cases h : k = 0
 ·subst h
  show (1 : Int) ≠ 0
  decide
 ·have := hF.cor k (by omega) hk
  omega
theorem xR_qm {A : List (List Int)} (hF : Form A) {k i j : Nat} (hk : k < A.length) (hi : i < A.length) (hj : j < A.length) : QM (xR (ent A) k i j) :=
 QM.quot (bI_le hF.sq hk hi hj) (corner_le hF.sq (by omega)) (hF.nz (by omega))
theorem dR_qm {A : List (List Int)} (hF : Form A) {k : Nat} (hk : k < A.length) : QM (dR (ent A) k) :=
 QM.quot (corner_le hF.sq (by omega)) (corner_le hF.sq (by omega)) (hF.nz (by omega))
theorem lR_qm {A : List (List Int)} (hF : Form A) {i k : Nat} (hk : k < A.length) (hi : i < A.length) : QM (lR (ent A) i k) :=
 QM.quot (bI_le hF.sq hk hi hk) (corner_le hF.sq (by omega)) (hF.nz (by omega))
theorem dR_ne {A : List (List Int)} (hF : Form A) {k : Nat} (hk : k < A.length) : dR (ent A) k ≠ 0 := by
 have a := cast_ne (hF.nz (k := k) (by omega))
 have b := cast_ne (hF.nz (k := k + 1) (by omega))
 unfold dR
 grind
theorem lR_dR {A : List (List Int)} (hF : Form A) {i k : Nat} (hk : k < A.length) : lR (ent A) i k * dR (ent A) k = xR (ent A) k i k := by
 have a := dR_ne hF hk
 rw [<- xR_div (hF.nz (k := k) (by omega)) (hF.nz (k := k + 1) (by omega))]
 grind
theorem IsNat.keep {H H' : Heap} {v : SV} {n : Nat} (h : IsNat H v n) {X : Nat -> Prop} (hX : ∀ r row, X r -> H.get r = some row -> ∀ c ∈ row.cells, ∀ kd n, c ≠ .int kd n) (hro : ∀ r, ¬ X r -> r < H.size -> H'.get r = H.get r) : IsNat H' v n := by
 obtain ⟨s, rfl, ha, hb⟩ := h
 refine ⟨s, rfl, Arr.keepG ha (fun c0 hc0 r row hx hg c hc => ?_) hro, hb⟩
 obtain ⟨d, _, rfl⟩ := List.mem_map.1 hc0
 exact hX r row hx hg c hc _ _
theorem pcellQ : PCell 3 IsQ where
 pos := by decide
 cell := fun {H e z} h => by
  obtain ⟨b, s, t, he, ⟨s1, e1, ⟨s2, rfl, _⟩, _⟩, t1, e2, ⟨t2, rfl, _⟩, _⟩ := h
  cases he
  cases e1
  cases e2
  refine ⟨rfl, fun c hc kd n hcn => ?_⟩
  subst hcn
  simp at hc
 agg := fun {H v z} h => by
  obtain ⟨b, s, t, rfl, _⟩ := h
  exact ⟨_, rfl⟩
 keep := fun {H H' v z} h {X} hX hro => by
  obtain ⟨b, s, t, e, h1, h2⟩ := h
  exact ⟨b, s, t, e, h1.keep hX hro, IsNat.keep h2 hX hro⟩
end Go.Sh.Of
