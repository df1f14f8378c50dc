/- Contract of the reference's Change; what gram.Change answers is what the reference answers. -/
import Derived.Test.YtkgbokkeemjkkaaGreatRTimes
import Derived.Test.YtkgbokkeemjkkaaGreatRWide
import Derived.Test.YtkgbokkeemjkkaaGreatTwice
set_option linter.unusedVariables false
set_option linter.unusedSimpArgs false
set_option exponentiation.threshold 20000
namespace Go.Sh.Of
open Go Go.Sh
variable {A U : List (List Int)}
def chL (A U : List (List Int)) : List (List Int) := sqM A.length (chM A.length (ent A) (ent U))
def chS (A U : List (List Int)) : Bool := smallM A.length (chM A.length (ent A) (ent U))
def rchE (A U : List (List Int)) : Int := if U.length ≠ A.length then 5 else if colsOf U ≠ A.length then 5 else if wideB U then 3 else if det A.length (ent U) = 0 then 50 else if chS A U then 0 else 3
theorem rchg_run (K d : Nat) (H : Heap) (v u : SV) : runQ wk tab slow K (d + 8) 11 [v, u] H = f11 slow K (runQ wk tab slow K (d + 7)) v u H := Eq.trans rfl rfl
theorem rchg_ok (K : Nat) (hK : 3000000 < K) (d : Nat) (H : Heap) {lu : Nat} {va vu : SV} (ha : IsInts2 H va A) (hs : Sq A) (hu : IsRRows lu H vu U) (hg : Good U) :
  ∃ v H', runQ wk tab slow K (d + 8) 11 [va, vu] H = some (.tuple [v, .int .i64 (rchE A U)], H') /\ Frame H H' /\ OwnRR H.size H' v (if rchE A U = 0 then chL A U else []) := by
 rw [rchg_run]
 have h8 := hs.n8
 have hn0 := hs.n0
 have hcol := rcols_ok K (d + 6) H hu
 rw [show d + 6 + 1 = d + 7 from rfl] at hcol
 have hul : ∀ k, slow.len vu k = k (i64 U.length) := hu.len
 have stop : ∀ {e : Int} (H' : Heap), rchE A U = e -> e ≠ 0 -> OwnRR H.size H' (.slice nilSl) (if rchE A U = 0 then chL A U else []) := fun H' he hn => by
  rw [if_neg (by rw [he]; exact hn)]
  exact OwnRR.nil _ _
 simp only [f11, hul, ints_len ha, n_neq]
 by_cases e1 : U.length = A.length
 ·have n1 : ¬ U.length ≠ A.length := fun h => h e1
  rw [decide_eq_false n1]
  simp only [z_guard, cond_false, hcol, z_call, ints_len ha, n_neq]
  by_cases e2 : colsOf U = A.length
  ·have n2 : ¬ colsOf U ≠ A.length := fun h => h e2
   rw [decide_eq_false n2]
   obtain ⟨H1, h1, f1⟩ := rwide_ok K (by omega) (d + 4) H hu hg
   rw [show d + 4 + 3 = d + 7 from rfl] at h1
   simp only [f11_j1, z_cond, cond_false, h1, z_call]
   by_cases e3 : wideB U = true
   ·have he : rchE A U = 3 := by unfold rchE; rw [if_neg n1, if_neg n2, if_pos e3]
    refine ⟨.slice nilSl, H1, ?_, f1, stop H1 he (by decide)⟩
    rw [he, e3]
    simp only [z_cond, cond_true]
   ·have e3' : wideB U = false := by simpa using e3
    have hb := wide_bd e3'
    rw [e3']
    obtain ⟨y, H2, h2, f2, n2'⟩ := rdet_ok K hK d H1 (hu.fr f1) hg (by omega) hb
    rw [e1] at n2'
    obtain ⟨s, rfl, n3⟩ := n2'
    have hl : ∀ k', slow.len (.slice s) k' = k' (i64 (rdigs (det A.length (ent U)).natAbs).length) := rlen n3
    have f02 := Frame.trans f1 f2
    simp only [z_cond, cond_false, h2, z_call, z_bst2, z_lfld, z_lld1, hl, z_eql, rlen0b]
    by_cases e4 : det A.length (ent U) = 0
    ·have he : rchE A U = 50 := by unfold rchE; rw [if_neg n1, if_neg n2, if_neg e3, if_pos e4]
     refine ⟨_, H2, ?_, f02, stop H2 he (by decide)⟩
     rw [he, decide_eq_true e4]
     simp only [z_cond, cond_true]
    ·have hT : TimesH A U := ⟨hs, hg, e1, e2⟩
     obtain ⟨m, H3, h3, f3, m3⟩ := times_ok K hK (d + 3) H2 hT (IsRowsC.fr ha f02) (hu.fr f02)
     rw [show d + 3 + 4 = d + 7 from rfl] at h3
     obtain ⟨v, H4, h4, f4, o4⟩ := small7_ok K hK (d + 4) H3 (n := A.length) h8 (E := chM A.length (ent A) (ent U)) (fun i j hi hj => by
      have := hT.dotb hi hj (x := A.length) (y := 0) (Nat.le_refl _) (by omega) (.inr rfl)
      rw [dotS_end, <- chM_eq] at this
      have := digs2 this (by omega)
      omega) m3
     rw [show d + 4 + 3 = d + 7 from rfl] at h4
     have f04 := Frame.trans f02 (Frame.trans f3 f4)
     rw [decide_eq_false e4]
     simp only [cond_false, h3, z_call, h4, z_ext0, z_ext1, z_not]
     cases hq : smallM A.length (chM A.length (ent A) (ent U)) with
     | true =>
      have hq' : chS A U = true := hq
      have he : rchE A U = 0 := by unfold rchE; rw [if_neg n1, if_neg n2, if_neg e3, if_neg e4, if_pos hq']
      rw [hq] at o4
      refine ⟨v, H4, ?_, f04, by rw [if_pos he]; exact o4.mono (Nat.le_trans f02.size f3.size)⟩
      rw [he]
      simp only [z_cond, Bool.not_true, cond_false, z_rest o4.good]
     | false =>
      have hq' : chS A U = false := hq
      have he : rchE A U = 3 := by unfold rchE; rw [if_neg n1, if_neg n2, if_neg e3, if_neg e4, hq']; rfl
      refine ⟨_, H4, ?_, f04, stop H4 he (by decide)⟩
      rw [he]
      simp only [z_cond, Bool.not_false, cond_false, cond_true]
  ·have he : rchE A U = 5 := by unfold rchE; rw [if_neg n1, if_pos e2]
   rw [decide_eq_true (show colsOf U ≠ A.length from e2)]
   exact ⟨_, H, by rw [he]; rfl, Fr.refl _ _, stop H he (by decide)⟩
 ·have he : rchE A U = 5 := by unfold rchE; rw [if_pos e1]
  rw [decide_eq_true (show U.length ≠ A.length from e1)]
  exact ⟨_, H, by rw [he]; rfl, Fr.refl _ _, stop H he (by decide)⟩
theorem smallB_iff {z : Int} : smallB z = true ↔ -16384 <= z /\ z <= 16384 := by
 unfold smallB
 simp [Bool.and_eq_true]
theorem chg_mul (hs : Sq A) (hg : Good U) (e1 : U.length = A.length) (e2 : colsOf U = A.length) (hw : wideB U = false) (hS : chS A U = true) : mulE U A = 0 /\ mulE (mulM U A) (trM U) = 0 := by
 have h8 := hs.n8
 have h0 := hs.n0
 have hle := of_decide_eq_false hw
 rw [e1, e2, Nat.min_self] at hle
 have hcA := hs.cols
 obtain ⟨w, hww⟩ : ∃ w, wMat 0 U = w := ⟨_, rfl⟩
 rw [hww] at hle
 have hbl : A.length < 2 ^ bl A.length := bl_le.1 (Nat.le_refl _)
 have hbl1 : 1 <= bl A.length := Decidable.byContradiction fun h => by
  have : bl A.length = 0 := by omega
  rw [this] at hbl
  omega
 have hU : EntLe U (2 ^ w) := ent_le hg fun r hr z hz => by
  have h1 := (wMat_ge U 0).2 r hr z hz
  rw [hww] at h1
  exact Nat.le_of_lt (bl_le.1 h1)
 have hA : EntLe A (2 ^ 14) := ent_le hs.good fun r hr z hz => by
  have := hs.sm r hr z hz
  show _ <= 16384
  omega
 have hw1 : w + bl A.length <= 2048 := by
  have : 2 * A.length * (w + bl A.length) <= 4096 := by omega
  have h2 : 2 * 1 * (w + bl A.length) <= 2 * A.length * (w + bl A.length) := Nat.mul_le_mul_right _ (by omega)
  omega
 have hbl' : A.length <= 2 ^ bl A.length := Nat.le_of_lt hbl
 have m1 : mulE U A = 0 := mulE_zero hU hA (by omega) (by
  rw [e2]
  exact Nat.lt_of_le_of_lt (mul2 hbl' (mul2 (Nat.le_refl (2 ^ w)) (Nat.le_refl (2 ^ 14)))) (Nat.pow_lt_pow_right (by decide) (by omega)))
 refine ⟨m1, ?_⟩
 have lM : (mulM U A).length = U.length := matOfE_len _ _ _
 have cM : colsOf (mulM U A) = colsOf A := colsOf_matOfE (by omega)
 have lT : (trM U).length = colsOf U := matOfE_len _ _ _
 by_cases hn : A.length = 1
 ·
  have cT : colsOf (trM U) = U.length := colsOf_matOfE (E := fun i j => ent U j i) (by omega)
  have hS0 := of_decide_eq_true hS 0 (by omega) 0 (by omega)
  rw [smallB_iff] at hS0
  have hM : EntLe (mulM U A) (ent (mulM U A) 0 0).natAbs := fun i j hi hj => by
   have : i = 0 := by omega
   have : j = 0 := by omega
   subst i j
   exact Nat.le_refl _
  have hT : EntLe (trM U) (ent (trM U) 0 0).natAbs := fun i j hi hj => by
   have : i = 0 := by omega
   have : j = 0 := by omega
   subst i j
   exact Nat.le_refl _
  refine mulE_zero hM hT (by omega) ?_
  have eC : chM A.length (ent A) (ent U) 0 0 = ent (mulM U A) 0 0 * ent (trM U) 0 0 := by
   have q1 : ent (mulM U A) 0 0 = dotE U A 0 0 := ent_matOfE (by omega) (by omega)
   have q2 : ent (trM U) 0 0 = ent U 0 0 := ent_matOfE (E := fun i j => ent U j i) (by omega) (by omega)
   rw [q1, q2, dotE_mulX, e2, hn]
   show sumZ 1 (fun t => mulX 1 (ent U) (ent A) 0 t * ent U 0 t) = _
   show 0 + mulX 1 (ent U) (ent A) 0 0 * ent U 0 0 = _
   omega
  rw [eC] at hS0
  rw [cM, hcA, hn, Nat.one_mul, <- Int.natAbs_mul]
  have : (ent (mulM U A) 0 0 * ent (trM U) 0 0).natAbs <= 2 ^ 14 := by
   show _ <= 16384
   omega
  exact Nat.lt_of_le_of_lt this (Nat.pow_lt_pow_right (by decide) (by omega))
 ·have hw2 : w + bl A.length <= 1024 := by
   have : 2 * A.length * (w + bl A.length) <= 4096 := by omega
   have h2 : 2 * 2 * (w + bl A.length) <= 2 * A.length * (w + bl A.length) := Nat.mul_le_mul_right _ (by omega)
   omega
  have hM : EntLe (mulM U A) (A.length * (2 ^ w * 2 ^ 14)) := mul_le hU hA (by omega) (by omega) (by omega)
  have hT : EntLe (trM U) (2 ^ w) := tr_le hU (by omega)
  refine mulE_zero hM hT (by omega) ?_
  rw [cM, hcA]
  exact Nat.lt_of_le_of_lt (mul2 hbl' (mul2 (mul2 hbl' (mul2 (Nat.le_refl (2 ^ w)) (Nat.le_refl (2 ^ 14)))) (Nat.le_refl (2 ^ w)))) (Nat.pow_lt_pow_right (by decide) (by omega))
theorem chgM_chL (hs : Sq A) (hg : Good U) (e1 : U.length = A.length) (e2 : colsOf U = A.length) (hr : ∀ r ∈ chgM A U, r.length = A.length) : chgM A U = chL A U := by
 obtain ⟨c1, c2, c3⟩ := chgM_ent hs e1 e2
 apply List.ext_getElem?
 intro i
 by_cases hi : i < A.length
 ·obtain ⟨r, hri⟩ : ∃ r, (chgM A U)[i]? = some r := ⟨_, List.getElem?_eq_getElem (by omega)⟩
  have hrl := hr r (List.mem_of_getElem? hri)
  have e3 : (chL A U)[i]? = some (rowI A.length (chM A.length (ent A) (ent U)) i) := by simp [chL, sqM, hi]
  rw [hri, e3, rowI_of (E := chM A.length (ent A) (ent U)) (i := i) hrl fun q hq => by
   obtain ⟨z, hz⟩ : ∃ z, r[q]? = some z := ⟨_, List.getElem?_eq_getElem (by omega)⟩
   rw [hz, <- c3 i q hi hq, ent_get hri hz]]
 ·have e3 : (chL A U).length = A.length := by simp [chL, sqM]
  rw [List.getElem?_eq_none (by omega), List.getElem?_eq_none (by omega)]
theorem chg_same (e0 : chkE A = 0) (hg : Good U) : chgE A U = rchE A U /\ (if chgE A U = 0 then chgM A U else []) = (if rchE A U = 0 then chL A U else []) := by
 have hs := (chk_form.1 e0).sq
 have h8 := hs.n8
 have h0 := hs.n0
 by_cases e1 : U.length = A.length
 ·by_cases e2 : colsOf U = A.length
  ·have n1 : ¬ U.length ≠ A.length := fun h => h e1
   have n2 : ¬ colsOf U ≠ A.length := fun h => h e2
   have n3 : ¬ U.length ≠ colsOf U := fun h => h (by omega)
   by_cases e3 : wideB U = true
   ·have a1 : sqE U = 3 := by unfold sqE; rw [if_neg n3, if_pos e3]
    have b1 : chgE A U = 3 := by unfold chgE; rw [if_neg (fun h => h e0), if_neg n1, if_neg n2, a1, if_pos (by decide)]
    have b2 : rchE A U = 3 := by unfold rchE; rw [if_neg n1, if_neg n2, if_pos e3]
    rw [b1, b2]
    exact ⟨rfl, rfl⟩
   ·have e3' : wideB U = false := by simpa using e3
    have a1 : sqE U = 0 := by unfold sqE; rw [if_neg n3, e3']; rfl
    have a2 : detR U = det A.length (ent U) := by rw [detR_det' (by omega), e1]
    by_cases e4 : det A.length (ent U) = 0
    ·have b1 : chgE A U = 50 := by unfold chgE; rw [if_neg (fun h => h e0), if_neg n1, if_neg n2, if_neg (fun h => h a1), a2, if_pos e4]
     have b2 : rchE A U = 50 := by unfold rchE; rw [if_neg n1, if_neg n2, if_neg e3, if_pos e4]
     rw [b1, b2]
     exact ⟨rfl, rfl⟩
    ·obtain ⟨c1, c2, c3⟩ := chgM_ent hs e1 e2
     by_cases hS : chS A U = true
     ·obtain ⟨m1, m2⟩ := chg_mul hs hg e1 e2 e3' hS
      have gM := mulM_good (mulM_good hg hs.good m1) (trM_good hg) m2
      have hrl : ∀ r ∈ chgM A U, r.length = A.length := fun r hr => by rw [gM.rect r hr]; exact c2
      have hSS := of_decide_eq_true hS
      have ent_in : ∀ (i : Nat) r (j : Nat) z, (chgM A U)[i]? = some r -> r[j]? = some z -> -16384 <= z /\ z <= 16384 := fun i r j z hr hz => by
       have hi := (List.getElem?_eq_some_iff.1 hr).1
       have hj := (List.getElem?_eq_some_iff.1 hz).1
       have hrr := hrl r (List.mem_of_getElem? hr)
       have := c3 i j (by omega) (by omega)
       rw [ent_get hr hz] at this
       rw [this]
       exact smallB_iff.1 (hSS i (by omega) j (by omega))
      have aF : allFit (chgM A U) = true := List.all_eq_true.2 fun r hr => List.all_eq_true.2 fun z hz => by
       obtain ⟨i, hi⟩ := List.getElem?_of_mem hr
       obtain ⟨j, hj⟩ := List.getElem?_of_mem hz
       have := ent_in i r j z hi hj
       exact fits64_iff.2 (by unfold I64; omega)
      have aS : outB (fun i j => smallB (ent (chgM A U) i j)) (chgM A U) 0 = true := outB_iff.2 fun x r k hx hk => by
       obtain ⟨z, hz⟩ : ∃ z, r[k]? = some z := ⟨_, List.getElem?_eq_getElem hk⟩
       rw [Nat.zero_add, ent_of hx hz]
       exact smallB_iff.2 (ent_in x r k z hx hz)
      have b1 : chgE A U = 0 := by
       unfold chgE
       rw [if_neg (fun h => h e0), if_neg n1, if_neg n2, if_neg (fun h => h a1), a2, if_neg e4, if_neg (fun h => h m1), if_neg (fun h => h m2), if_pos aF, if_pos aS]
      have b2 : rchE A U = 0 := by unfold rchE; rw [if_neg n1, if_neg n2, if_neg e3, if_neg e4, if_pos hS]
      rw [b1, b2, if_pos rfl, if_pos rfl]
      exact ⟨rfl, chgM_chL hs hg e1 e2 hrl⟩
     ·have b2 : rchE A U = 3 := by unfold rchE; rw [if_neg n1, if_neg n2, if_neg e3, if_neg e4, if_neg hS]
      have b1 : chgE A U = 3 := by
       unfold chgE
       rw [if_neg (fun h => h e0), if_neg n1, if_neg n2, if_neg (fun h => h a1), a2, if_neg e4]
       split
       ·rfl
       ·split
        ·rfl
        ·split
         ·split
          ·rename_i k1 k2 k3 k4
           exfalso
           have m1 : mulE U A = 0 := Decidable.byContradiction k1
           have m2 : mulE (mulM U A) (trM U) = 0 := Decidable.byContradiction k2
           have gM := mulM_good (mulM_good hg hs.good m1) (trM_good hg) m2
           refine hS (decide_eq_true fun i hi j hj => ?_)
           obtain ⟨r, hr⟩ : ∃ r, (chgM A U)[i]? = some r := ⟨_, List.getElem?_eq_getElem (by omega)⟩
           have hrl : r.length = A.length := by rw [gM.rect r (List.mem_of_getElem? hr)]; exact c2
           have := outB_iff.1 k4 i r j hr (by omega)
           rw [Nat.zero_add, c3 i j hi hj] at this
           exact this
          ·rfl
         ·rfl
      rw [b1, b2]
      exact ⟨rfl, rfl⟩
  ·have b1 : chgE A U = 5 := by unfold chgE; rw [if_neg (fun h => h e0), if_neg (fun h => h e1), if_pos e2]
   have b2 : rchE A U = 5 := by unfold rchE; rw [if_neg (fun h => h e1), if_pos e2]
   rw [b1, b2]
   exact ⟨rfl, rfl⟩
 ·have b1 : chgE A U = 5 := by unfold chgE; rw [if_neg (fun h => h e0), if_pos e1]
  have b2 : rchE A U = 5 := by unfold rchE; rw [if_pos e1]
  rw [b1, b2]
  exact ⟨rfl, rfl⟩
end Go.Sh.Of
