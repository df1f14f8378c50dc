/- The program's Ldl: contracts of gram.square of fractions and of gram.Ldl. -/
import Derived.Test.YtcfheodfkmelmaaGWork
import Derived.Test.YtcfheodfkmelmaaRatA
import Derived.Test.YtcfheodfkmelmaaLdlP
set_option linter.unusedVariables false
set_option linter.unusedSimpArgs false
set_option exponentiation.threshold 20000
namespace Go.Sh.Of
open Go Go.Sh
def QM (q : Rat) : Prop := q.num.natAbs <= 2 ^ 136 /\ q.den <= 2 ^ 136
theorem QM.qs {q : Rat} (h : QM q) : QS q := by
 have : 2 ^ 136 < 2 ^ 1500 := Nat.pow_lt_pow_right (by decide) (by decide)
 exact ⟨Nat.lt_of_le_of_lt h.1 this, Nat.lt_of_le_of_lt h.2 this⟩
theorem QM.quot {p q : Int} (hp : p.natAbs <= 2 ^ 136) (hq : q.natAbs <= 2 ^ 136) (h0 : q ≠ 0) : QM ((p : Rat) / (q : Rat)) := by
 have h := quot_le (p := p) h0
 exact ⟨Nat.le_trans h.1 hp, Nat.le_trans h.2 hq⟩
theorem QM.int {z : Int} (h : z.natAbs <= 2 ^ 136) : QM (z : Rat) := ⟨by rw [Rat.num_intCast]; exact h, by rw [Rat.den_intCast]; exact Nat.one_le_two_pow⟩
theorem minor_le {A : List (List Int)} (hs : Sq A) {s : Nat} (h : s <= 8) {M : Mx} (hM : ∀ i k, i < s -> k < s -> (M i k).natAbs <= 16384) : (det s M).natAbs <= 2 ^ 136 := by
 have h1 := det_abs (N := 8) (c := 16384) h hM
 refine Nat.le_trans h1 ?_
 rw [show 8 * 16384 = 2 ^ 17 from rfl, <- Nat.pow_mul]
 exact Nat.pow_le_pow_right (by decide) (by omega)
theorem corner_le {A : List (List Int)} (hs : Sq A) {k : Nat} (hk : k <= A.length) : (det k (ent A)).natAbs <= 2 ^ 136 := by
 have h8 := hs.n8
 refine minor_le hs (by omega) fun i j hi hj => ?_
 obtain ⟨r, _, _, h1, h2⟩ := hs.at (show i < A.length by omega) (show j < A.length by omega)
 omega
theorem Form.nz {A : List (List Int)} (hF : Form A) {k : Nat} (hk : k <= A.length) : det k (ent A) ≠ 0 := by
 by_cases h : k = 0
 ·subst h
  show (1 : Int) ≠ 0
  decide
 ·have := hF.cor k (by omega) hk
  omega
theorem IsNat.keep {H H' : Heap} {v : SV} {n : Nat} (h : IsNat H v n) {X : Nat -> Prop} (hX : ∀ r row, X r -> H.get r = some row -> ∀ c ∈ row.cells, ∀ kd n, c ≠ .int kd n) (hro : ∀ r, ¬ X r -> r < H.size -> H'.get r = H.get r) : IsNat H' v n := by
 obtain ⟨s, rfl, ha, hb⟩ := h
 refine ⟨s, rfl, Arr.keepG ha (fun c0 hc0 r row hx hg c hc => ?_) hro, hb⟩
 obtain ⟨d, _, rfl⟩ := List.mem_map.1 hc0
 exact hX r row hx hg c hc _ _
theorem pcellQ : PCell 3 IsQ where
 pos := by decide
 cell := fun {H e z} h => by
  obtain ⟨b, s, t, he, ⟨s1, e1, ⟨s2, rfl, _⟩, _⟩, t1, e2, ⟨t2, rfl, _⟩, _⟩ := h
  cases he
  cases e1
  cases e2
  refine ⟨rfl, fun c hc kd n hcn => ?_⟩
  subst hcn
  simp at hc
 agg := fun {H v z} h => by
  obtain ⟨b, s, t, rfl, _⟩ := h
  exact ⟨_, rfl⟩
 keep := fun {H H' v z} h {X} hX hro => by
  obtain ⟨b, s, t, e, h1, h2⟩ := h
  exact ⟨b, s, t, e, h1.keep hX hro, IsNat.keep h2 hX hro⟩
end Go.Sh.Of
