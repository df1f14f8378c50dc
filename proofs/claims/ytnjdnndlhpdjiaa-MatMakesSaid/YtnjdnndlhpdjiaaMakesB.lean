/- MatMakes: the outer loop that copies the rows. -/
import Derived.Test.YtnjdnndlhpdjiaaMakesA
set_option linter.unusedVariables false
set_option linter.unusedSimpArgs false
namespace Go.Sh.Of
open Go

theorem mk_out (K : Nat) (hK : 100000 < K) (d : Nat) {H0 : Heap} {v n : SV} {rows : List (List Int)} (hv : IsInts2 H0 v rows) (hsm : ∀ r ∈ rows, ∀ z ∈ r, I64 z) (hrl : rows.length ≤ 100)
    (hend : ∀ H a b ws us F fuel, Frame H0 H → Mk H0.size H a b ws us rows rows.length F → (∀ r ∈ rows, r.length ≤ 100) → ∃ H', slow.loop6 (f3_l3 slow K (runQ wk tab slow K (d + 20))) (fuel + 1) v n a b (i64 rows.length) (i64 rows.length) H = some (.bool true, H')) :
    ∀ (m i fuel : Nat) (H : Heap) (a b : SV) (ws us : List SV) (F : Nat → Nat), i + m = rows.length → m < fuel → Frame H0 H → Mk H0.size H a b ws us rows i F → (∀ (q : Nat) r, q < i → rows[q]? = some r → r.length ≤ 100) →
    ∃ H', slow.loop6 (f3_l3 slow K (runQ wk tab slow K (d + 20))) fuel v n a b (i64 rows.length) (i64 i) H = some (.bool true, H')
  | 0, i, fuel, H, a, b, ws, us, F, him, hf, hfr, hm, hok => by
    obtain ⟨fuel, rfl⟩ : ∃ m, fuel = m + 1 := ⟨fuel - 1, by omega⟩
    have hi : i = rows.length := by omega
    subst hi
    exact hend H a b ws us F fuel hfr hm fun r hr => by
      obtain ⟨q, hq⟩ := List.getElem?_of_mem hr
      exact hok q r (List.getElem?_eq_some_iff.1 hq).1 hq
  | m + 1, i, fuel, H, a, b, ws, us, F, him, hf, hfr, hm, hok => by
    obtain ⟨fuel, rfl⟩ : ∃ m, fuel = m + 1 := ⟨fuel - 1, by omega⟩
    have hlt : i < rows.length := by omega
    obtain ⟨zs, hz⟩ : ∃ zs, rows[i]? = some zs := ⟨_, List.getElem?_eq_getElem hlt⟩
    have hzm := List.mem_of_getElem? hz
    have hv' := hv
    obtain ⟨vs, hvs, hvl, hvr⟩ := hv'
    obtain ⟨x, hx⟩ : ∃ x, vs[i]? = some x := ⟨_, List.getElem?_eq_getElem (by simp at hvl; omega)⟩
    have ha : Arr H0 x (intsL .i64 zs) := hvr i x _ hx (by simp [hz])
    have hld : ∀ H', Frame H0 H' → ∀ k, slow.idx 1 v (i64 i) (fun p => slow.load 1 false p H' k) = k x := fun H' f k => (hvs.fr f).load hx .i64 k
    have hxl : ∀ k, slow.len x k = k (i64 zs.length) := fun k => by rw [ha.len]; simp
    rw [z_loop6]
    simp only [f3_l3, n_lss, decide_eq_true hlt, z_cond, cond_true, hld H hfr, hxl]
    rw [show (SV.int .i64 100) = i64 100 from rfl, n_gtr]
    by_cases hbig : zs.length > 100
    · rw [decide_eq_true hbig, z_cond, cond_true]
      exact ⟨H, rfl⟩
    · rw [decide_eq_false hbig, z_cond, cond_false]
      have hlo : H0.size ≤ H.size := hfr.size
      obtain ⟨c, H1, h1, oc, f1, _⟩ := (Own.nil H.size H).append (Nat.le_refl _) (ha.fr hfr) (by_ := 8) (roomy_small (by simp; omega))
      rw [List.nil_append] at oc
      have hfr1 := Frame.trans hfr f1
      obtain ⟨a', H2, hp, oa2, f2, hro2, hge2⟩ := push1F (hm.oa.fr f1) (Nat.le_trans hlo f1.size) (.slice nilSl) (x := c) oc.arr.flat (by_ := 24) (roomy_small (by rw [hm.la]; omega))
      have hfr2 : Frame H0 H2 := Fr.trans hfr1 f2
      have nab : ∀ r, inRow b r → ¬ inRow a r := fun r hb ha => by have := hm.fa r ha; have := hm.fb r hb; omega
      have ob2 : Own H0.size H2 b us := Own.of_rows (hm.ob.fr f1) fun r hr => hro2 r (nab r hr) (Own.lt (hm.ob.fr f1) hr)
      obtain ⟨b', H3, t', els, B, h3, f3, hro3, ob3, ot, hel, hcell, hint, hB, htB, hbB, hst⟩ := mk_in K hK (d + 17) (Hi := H2) hfr2 ha (hsm zs hzm) (by omega) ob2 hfr2.size (by rw [hm.lb]; omega) hm.sb (i := i) (by omega) v n a' (i64 rows.length) (slow.loop6 (f3_l3 slow K (runQ wk tab slow K (d + 20))) fuel) zs.length 0 K H2 (.slice nilSl) [] (by omega) (by omega) (Fr.refl _ _) (OwnS.nil _ _ _) rfl (fun e he => by cases he) (fun q e z he => by simp at he)
      have s1 := f1.size
      have s2 := f2.size
      have s3 := f3.size
      have keep : ∀ r, ¬ inRow a r → ¬ inRow b r → r < H.size → H3.get r = H.get r := fun r ha hb hr => by
        rw [hro3 r hb (by omega), hro2 r ha (by omega), f1.rows r hr]
      have hXc : ∀ r row, (inRow a r ∨ inRow b r) → H.get r = some row → ∀ c ∈ row.cells, ∀ n, c ≠ .int .u32 n := fun r row hx hg c hc n => by
        rcases hx with hx | hx
        · rw [Own.cells hm.oa hx hg] at hc; exact isSlice_not_int (hm.sa c hc) _ _
        · rw [Own.cells hm.ob hx hg] at hc; exact isSlice_not_int (hm.sb c hc) _ _
      have alt : ∀ r, inRow a r → r < H.size := fun r hr => Own.lt hm.oa hr
      have blt : ∀ r, inRow b r → r < H.size := fun r hr => Own.lt hm.ob hr
      let F' : Nat → Nat := fun r => if r < H.size then F r else if r < H1.size then 2 * i + 2 else if r < H2.size then 0 else if r < B then 2 * i + 3 else 1
      have hm' : Mk H0.size H3 a' b' (ws ++ [c]) (us ++ [t']) rows (i + 1) F' := {
        oa := Own.of_rows oa2 fun r hr => hro3 r (fun hb => by have := blt r hb; have := hge2 r hr; omega) (Own.lt oa2 hr)
        ob := ob3
        la := by simp [hm.la]
        lb := by simp [hm.lb]
        sa := fun w hw => by
          rcases List.mem_append.1 hw with hw | hw
          · exact hm.sa w hw
          · rw [List.mem_singleton.1 hw]; exact Arr.isSlice oc.arr
        sb := fun w hw => by
          rcases List.mem_append.1 hw with hw | hw
          · exact hm.sb w hw
          · rw [List.mem_singleton.1 hw]; exact hst
        fa := fun r hr => by
          have h1 := hge2 r hr
          have h2 := Own.lt oa2 hr
          show (if r < H.size then F r else if r < H1.size then 2 * i + 2 else if r < H2.size then 0 else if r < B then 2 * i + 3 else 1) = 0
          rw [if_neg (by omega), if_neg (by omega), if_pos (by omega)]
        fb := fun r hr => by
          have h1 := hbB r hr
          show (if r < H.size then F r else if r < H1.size then 2 * i + 2 else if r < H2.size then 0 else if r < B then 2 * i + 3 else 1) = 1
          rw [if_neg (by omega), if_neg (by omega), if_neg (by omega), if_neg (by omega)]
        ra := fun q w zs' hw hz' => by
          by_cases hq : q < ws.length
          · rw [List.getElem?_append_left hq] at hw
            have ho := hm.ra q w zs' hw hz'
            refine Own.of_rows ho fun r hr => keep r (fun hx => ?_) (fun hx => ?_) (Own.lt ho hr)
            · have := hm.fa r hx; have := hm.ga q w hw r hr; omega
            · have := hm.fb r hx; have := hm.ga q w hw r hr; omega
          · have hq2 : q = ws.length := by have := (List.getElem?_eq_some_iff.1 hw).1; simp at this; omega
            subst hq2
            simp at hw
            subst hw
            rw [hm.la, hz] at hz'
            cases hz'
            refine Own.of_rows (oc.mono hlo) fun r hr => ?_
            have g1 := Own.geA oc hr
            have g2 := Own.lt oc hr
            rw [hro3 r (fun hb => by have := blt r hb; omega) (by omega), hro2 r (fun hb => by have := alt r hb; omega) g2]
        rb := fun q w zs' hw hz' => by
          by_cases hq : q < us.length
          · rw [List.getElem?_append_left hq] at hw
            obtain ⟨els', e1, e2, e3, e4⟩ := hm.rb q w zs' hw hz'
            refine ⟨els', OwnS.of_rows e1 fun r hr => keep r (fun hx => ?_) (fun hx => ?_) (OwnS.lt e1 hr), e2, e3, fun j e z he hz => (e4 j e z he hz).keepU (X := fun r => inRow a r ∨ inRow b r) hXc fun r hx hr => keep r (fun h => hx (.inl h)) (fun h => hx (.inr h)) hr⟩
            · have := hm.fa r hx; have := hm.gb q w hw r hr; omega
            · have := hm.fb r hx; have := hm.gb q w hw r hr; omega
          · have hq2 : q = us.length := by have := (List.getElem?_eq_some_iff.1 hw).1; simp at this; omega
            subst hq2
            simp at hw
            subst hw
            rw [hm.lb, hz] at hz'
            cases hz'
            exact ⟨els, OwnS.mono ot hfr2.size, hel, hcell, hint⟩
        ga := fun q w hw r hr => by
          by_cases hq : q < ws.length
          · rw [List.getElem?_append_left hq] at hw
            obtain ⟨zs', hz'⟩ : ∃ z, rows[q]? = some z := ⟨_, List.getElem?_eq_getElem (by have := hm.la; omega)⟩
            have := Own.lt (hm.ra q w zs' hw hz') hr
            show (if r < H.size then F r else if r < H1.size then 2 * i + 2 else if r < H2.size then 0 else if r < B then 2 * i + 3 else 1) = 2 * q + 2
            rw [if_pos (by omega)]
            exact hm.ga q w hw r hr
          · have hq2 : q = ws.length := by have := (List.getElem?_eq_some_iff.1 hw).1; simp at this; omega
            subst hq2
            simp at hw
            subst hw
            have g1 := Own.geA oc hr
            have g2 := Own.lt oc hr
            show (if r < H.size then F r else if r < H1.size then 2 * i + 2 else if r < H2.size then 0 else if r < B then 2 * i + 3 else 1) = 2 * ws.length + 2
            rw [if_neg (by omega), if_pos (by omega), hm.la]
        gb := fun q w hw r hr => by
          by_cases hq : q < us.length
          · rw [List.getElem?_append_left hq] at hw
            obtain ⟨zs', hz'⟩ : ∃ z, rows[q]? = some z := ⟨_, List.getElem?_eq_getElem (by have := hm.lb; omega)⟩
            obtain ⟨els', e1, _⟩ := hm.rb q w zs' hw hz'
            have := OwnS.lt e1 hr
            show (if r < H.size then F r else if r < H1.size then 2 * i + 2 else if r < H2.size then 0 else if r < B then 2 * i + 3 else 1) = 2 * q + 3
            rw [if_pos (by omega)]
            exact hm.gb q w hw r hr
          · have hq2 : q = us.length := by have := (List.getElem?_eq_some_iff.1 hw).1; simp at this; omega
            subst hq2
            simp at hw
            subst hw
            have g1 := OwnS.geA ot hr
            have g2 := htB r hr
            show (if r < H.size then F r else if r < H1.size then 2 * i + 2 else if r < H2.size then 0 else if r < B then 2 * i + 3 else 1) = 2 * us.length + 3
            rw [if_neg (by omega), if_neg (by omega), if_neg (by omega), if_pos (by omega), hm.lb] }
      obtain ⟨H4, h4⟩ := mk_out K hK d hv hsm hrl hend m (i + 1) fuel H3 a' b' (ws ++ [c]) (us ++ [t']) F' (by omega) (by omega) (Fr.trans hfr2 f3) hm' (fun q r hq hr => by
        by_cases hqi : q = i
        · subst hqi
          rw [hz] at hr
          cases hr
          omega
        · exact hok q r (by omega) hr)
      refine ⟨H4, ?_⟩
      rw [h1, hp, hld H2 hfr2, hxl, show (SV.int .i64 0) = i64 0 from rfl, h3]
      exact h4
end Go.Sh.Of
