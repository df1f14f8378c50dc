/- GramChanges: the walk. -/
import Derived.Test.YtkgbokkeemjkkaaGreatRChg
import Derived.Test.YtkgbokkeemjkkaaGreatChgO
import Derived.Test.YtkgbokkeemjkkaaGreatStrs
set_option linter.unusedVariables false
set_option linter.unusedSimpArgs false
namespace Go.Sh.Of
open Go Go.Sh
variable {A U : List (List Int)}
variable {va : SV}
def chW (A U : List (List Int)) : List (List Int) := if chgE A U = 0 then chgM A U else []
theorem chW_few (hg : Good U) : FewI (chW A U) := by
 unfold chW
 by_cases e0 : chkE A = 0
 ·rw [(chg_same e0 hg).2]
  split
  ·have := (chk_form.1 e0).sq.n8
   exact sqM_few' (by omega) _
  ·exact ⟨by simp, fun r hr => by cases hr⟩
 ·rw [if_neg fun h => by
   unfold chgE at h
   rw [if_pos e0] at h
   exact e0 h]
  exact ⟨by simp, fun r hr => by cases hr⟩
where
 sqM_few' {n : Nat} (h : n <= 100) (E : Nat -> Nat -> Int) : FewI (sqM n E) := ⟨by simp [sqM]; omega, fun r hr => by
  obtain ⟨i, _, rfl⟩ := List.mem_map.1 hr
  rw [rowI_len]
  omega⟩
theorem chgs_j5 (K : Nat) (hK : 3000000 < K) (d : Nat) {Hb Hc H : Heap} (fb : Frame Hb H) (fc : Frame Hc H) {b c e want : SV} {A U : List (List Int)} {l1 : Nat} (hg : Good U) (ha : IsInts2 Hb va A) (hx : Twin l1 Hb b A) (fA : FewI A) (hc : OwnRR Hb.size Hc c (chW A U)) (hd : OwnRR Hc.size H e (chW A U)) (hw : OwnRR Hc.size H want (chW A U)) :
  ∃ H', f3_j5 slow K (runQ wk tab slow K (d + 21)) va b c (.int .i64 (chgE A U)) e (.int .i64 (chgE A U)) want (.int .i64 (chgE A U)) H = some (.bool true, H') := by
 have fw := chW_few (A := A) hg
 have h1 := same7_ok K (by omega) (d + 20) H (hc.fr fc).ownR.ints hw.ownR.ints fw
 have h2 := kept_ok K (by omega) (d + 19) H (IsRowsC.fr ha fb) (hx.fr fb) fA
 obtain ⟨H1, h3, f1, k1⟩ := spoilB_ok K (by omega) (d + 20) fc (hc.sp fw)
 have F : Frame Hb H1 := Fr.trans fb f1
 have h4 := same7_ok K (by omega) (d + 20) H1 (hd.above k1).ownR.ints (hw.above k1).ownR.ints fw
 have h5 := kept_ok K (by omega) (d + 19) H1 (IsRowsC.fr ha F) (hx.fr F) fA
 refine ⟨H1, ?_⟩
 simp only [f3_j5, z_neq, bne_self_eq_false, z_guard, cond_false, h1, z_call, z_not, Bool.not_true, h2, f3_j6, z_cond, h3, h4, cond_true, h5, f3_j8, z_rest_bool]
theorem chgs_j3 (K : Nat) (hK : 3000000 < K) (d : Nat) (H : Heap) {w x : SV} {lo : Nat} (hg : Good U) (ha : IsInts2 H va A) (fA : FewI A) (hm : IsMat H (.agg [w]) U) (hx : IsRRows lo H x U) :
  ∃ H', f3_j3 slow K (runQ wk tab slow K (d + 21)) va (.box [w]) x (.bool false) H = some (.bool true, H') := by
 obtain ⟨b, H1, h1, f1, t1⟩ := twin_ok K (by omega) (d + 20) H ha fA
 obtain ⟨c, H2, h2, f2, o2⟩ := chgo_ok K (by omega) d H1 t1.ints (hm.fr f1) hg
 obtain ⟨e, H3, h3, f3, o3⟩ := chgo_ok K (by omega) d H2 (t1.fr f2).ints (hm.fr (Frame.trans f1 f2)) hg
 have f13 := Frame.trans f2 f3
 obtain ⟨H4, h4, f4⟩ := rchk_ok K hK (d + 12) H3 (IsRowsC.fr ha (Frame.trans f1 f13))
 rw [show d + 12 + 9 = d + 21 from rfl] at h4
 have f14 := Frame.trans f13 f4
 have f24 := Frame.trans f3 f4
 have ha1 : IsInts2 H1 va A := IsRowsC.fr ha f1
 simp only [f3_j3, z_cond, cond_false, h1, z_call, z_lload1, h2, z_ext0, z_ext1, h3, h4, z_eql]
 by_cases e0 : chkE A = 0
 ·have hs := (chk_form.1 e0).sq
  obtain ⟨s1, s2⟩ := chg_same e0 hg
  obtain ⟨v, H5, h5, f5, o5⟩ := rchg_ok K hK (d + 13) H4 (IsRowsC.fr ha1 f14) hs (hx.fr (Frame.trans f1 f14)) hg
  rw [show d + 13 + 8 = d + 21 from rfl, <- s1] at h5
  rw [<- s2] at o5
  have b0 : (chkE A == 0) = true := by simp [e0]
  obtain ⟨H', h6⟩ := chgs_j5 K hK d (Frame.trans f14 f5) (Frame.trans f24 f5) (e := e) hg ha1 t1 fA o2 ((o3.fr f4).fr f5) (o5.mono f24.size)
  refine ⟨H', ?_⟩
  rw [b0]
  simp only [cond_true, h5, z_call, z_ext0, z_ext1]
  exact h6
 ·have b0 : (chkE A == 0) = false := by simp [e0]
  have eE : chgE A U = chkE A := by unfold chgE; rw [if_pos e0]
  have eW : chW A U = [] := by unfold chW; rw [if_neg (by rw [eE]; exact e0)]
  obtain ⟨H', h6⟩ := chgs_j5 K hK d f14 f24 (e := e) (want := .slice nilSl) hg ha1 t1 fA o2 (o3.fr f4) (by rw [eW]; exact OwnRR.nil _ _)
  refine ⟨H', ?_⟩
  rw [eE] at h6 ⊢
  rw [b0]
  simp only [cond_false]
  exact h6
theorem changes_run (K d : Nat) (H : Heap) (v u : SV) : runQ wk tab slow K (d + 22) 3 [v, u] H = f3 slow K (runQ wk tab slow K (d + 21)) v u H := Eq.trans rfl rfl
theorem changes_ok (K : Nat) (hK : 3000000 < K) (d : Nat) (H : Heap) {vu : SV} {T : List (List (List UInt8))} (ha : IsInts2 H va A) (_ : ∀ r ∈ A, ∀ z ∈ r, I64 z) (hu : IsTexts H vu T) (hT : TextsOk K T) :
  ∃ H', runQ wk tab slow K (d + 22) 3 [va, vu] H = some (.bool true, H') := by
 have hw : ∀ H, runQ wk tab slow K (d + 21) 4 [] H = some (.bool true, H) := fun H => rfl
 rw [changes_run]
 obtain ⟨u, H1, h1, ho, f1, _, _⟩ := z_lay1 (H := H) (lo := H.size) (Nat.le_refl _) (.slice nilSl) (IsRowsC.flat ha)
 have ha1 : IsInts2 H1 va A := IsRowsC.fr ha f1
 have hu1 : IsTexts H1 vu T := IsRowsC.fr hu f1
 have stop : ∀ H, f3_j1 slow K (runQ wk tab slow K (d + 21)) va vu (.bool true) H = some (.bool true, H) := fun H => by
  simp only [f3_j1, z_cond, cond_true, hw, z_call, z_rest_bool]
 simp only [f3, hw, z_call, z_not, Bool.not_true, z_guard, cond_false, h1]
 rcases beyond7_ok K (by omega) (d + 20) H1 (Ts := [A]) ho.arr (by simp) rfl (fun i u T' hu hT => by
  match i with
  | 0 => simp at hu hT; subst hu hT; exact ha1
  | n + 1 => simp at hu) with h2 | ⟨hfew, h2⟩
 ·refine ⟨H1, ?_⟩
  simp only [h2, z_call, z_guard, cond_true, stop]
 ·have fA : FewI A := hfew A (by simp)
  have hlu : ∀ k, slow.len vu k = k (i64 T.length) := fun k => by
   have := IsRowsC.len hu1 k
   simpa using this
  have g1 : ∀ k, slow.gtr (i64 T.length) (.int .i64 100) k = k (.bool (decide (T.length > 100))) := fun k => n_gtr k .i64 T.length 100
  simp only [h2, z_call, z_guard, cond_false, hlu, g1]
  by_cases h100 : T.length > 100
  ·rw [decide_eq_true h100]
   exact ⟨H1, stop H1⟩
  ·rw [decide_eq_false h100]
   obtain ⟨r, H2, h3, f2, m2⟩ := mparse_ok K (by omega) (d + 13) H1 hu1 hT (by omega)
   rw [show d + 13 + 8 = d + 21 from rfl] at h3
   obtain ⟨w, rfl⟩ := m2.agg
   have m2' := m2.mat
   obtain ⟨x, H3, h4, f3, x3⟩ := rread_ok K hK (d + 14) H2 (IsRowsC.fr hu1 f2) hT (by omega)
   rw [show d + 14 + 7 = d + 21 from rfl] at h4
   simp only [f3_j1, z_cond, cond_false, h3, z_call, z_ext0, z_ext1, z_bst1, h4, z_neq]
   by_cases e : parseE T = 0
   ·have b : (parseE T != 0) = false := by simp [e]
    rw [b]
    simp only [z_guard, cond_false]
    exact chgs_j3 K hK d H3 (parseM_good T) (IsRowsC.fr ha1 (Frame.trans f2 f3)) fA (m2'.fr f3) x3
   ·have b : (parseE T != 0) = true := by simp [e]
    rw [b]
    exact ⟨H3, rfl⟩
end Go.Sh.Of
