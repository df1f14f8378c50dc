/- Points in orbits: what the program tells. -/
import Derived.Test.YtndfkcmobpeogaaOrbD
set_option linter.unusedVariables false
set_option linter.unusedSimpArgs false
namespace Go.Sh.Of
open Go

theorem pushO {lo : Nat} {H : Heap} {t : SV} {cs : List SV} (h : Own lo H t cs) (hl : lo ≤ H.size) (z : SV) {x : SV} (hx : x.flat = true) {by_ : Nat} (hr : roomy (cs.length + 1) by_ = true) :
    ∃ t' H', (∀ k, slow.hbuild 1 [z] [(0, 1)] [x] H (fun u H1 => slow.append 1 by_ t u H1 k) = k t' H') ∧ Own lo H' t' (cs ++ [x]) ∧ Fr lo H H' ∧ (∀ r, ¬ inRow t r → r < H.size → H'.get r = H.get r) ∧ ∀ r, inRow t' r → H.size ≤ r := by
  obtain ⟨u, H1, hu, hou, hfu, hru, hsz⟩ := z_lay1 (H := H) (lo := H.size) (Nat.le_refl _) z hx
  obtain ⟨t', H2, ha, ho2, hf2, hrw, hin, _⟩ := (h.fr hfu).append (Nat.le_trans hl hfu.size) hou.arr (by_ := by_) hr
  refine ⟨t', H2, fun k => by rw [hu, ha], ho2, (hfu.mono hl).trans hf2, fun r hn hlt => by rw [hrw r hn (Nat.lt_of_lt_of_le hlt hfu.size), hfu.rows r hlt], fun r hr' => ?_⟩
  obtain ⟨s, o, e1, e2⟩ := hin (by simp)
  obtain ⟨s', o', e3, e4⟩ := hr'
  rw [e1] at e3
  cases e3
  rw [e2] at e4
  cases e4
  exact hfu.size
theorem verEq_same (o : Option Nat) : verEq o o = true := by
  cases o with
  | none => rfl
  | some a => exact Nat.beq_refl a
theorem same_get {r : Nat × Nat} {H H' : Heap} (h : H'.get r.1 = H.get r.1) (t : Rs) : slow.same (.ptr r) H H' t = t := by
  have e : H'.ver r.1 = H.ver r.1 := by unfold Heap.ver; rw [h]
  show (bif sameRow (.ptr r) H H' then t else none) = t
  simp only [sameRow, rowOf, e, verEq_same, cond_true]
theorem placeV {lo : Nat} {H : Heap} {v : SV} {cs : List SV} (h : Own lo H v cs) {i : Nat} {x : SV} (hx : cs[i]? = some x) : ∃ r, inRow v r.1 ∧ (∀ k, slow.idx 1 v (i64 i) k = k (.ptr r)) ∧ ∀ k, slow.load 1 false (.ptr r) H k = k x := by
  have hi : i < cs.length := (List.getElem?_eq_some_iff.1 hx).1
  obtain ⟨base, rfl, h⟩ := h
  rcases h with ⟨_, rfl⟩ | ⟨r, ver, rfl, _, h2⟩
  · simp at hi
  · have hc : 0 ≤ (i : Int) ∧ (i : Int) < cs.length := ⟨by omega, by omega⟩
    have b3 : (⟨2, 1, ver, cs⟩ : Row).kind ≠ 0 := by simp
    refine ⟨(r, 0 + (i : Int).toNat * 1), ⟨_, 0, rfl, rfl⟩, fun k => ?_, fun k => ?_⟩
    · show (opP (.idx 1) [.slice ⟨some (r, 0), cs.length, none, 0⟩, i64 i]).bind _ = _
      simp only [opP, if_pos hc, Option.bind_some]
    · show (opR (.load 1 false) [.ptr (r, 0 + (i : Int).toNat * 1)] H).bind k = _
      have hcut : cut cs (0 + (i : Int).toNat * 1) 1 = some [x] := by
        rw [Int.toNat_natCast, Nat.mul_one, Nat.zero_add]
        exact cut_one hx
      simp only [opR, Heap.read, h2, beq_ne b3, cond_false, hcut, shaped, Option.bind_some]
/-- One point behind its orbit. -/
theorem emit_one (C : CallC) (K : Nat) {lo1 lo2 : Nat} {H : Heap} {va out : SV} {A : List Nat} {ws : List SV} {w : SV} {l : List Nat} {t q0 i : Nat} (hi : i < 64) (hll : l.length ≤ 64) (hlo2 : lo2 ≤ H.size) (ha : Own lo1 H va (natsL A)) (ha2 : ∀ r, inRow va r → r < lo2) (hA : A[t]? = some q0) (ho : Own lo2 H out ws) (hwq : ws[q0]? = some w) (hw : Own lo2 H w (natsL l)) (hsep : ∀ r, inRow w r → ¬ inRow out r) (fn n : SV) (k101 : SV → SV → SV → SV → SV → Heap → Rs) :
    ∃ w' H', f5_j25 slow K C k101 fn out va (i64 i) (i64 t) n (i64 i) H = k101 fn out va n (i64 (i + 1)) H' ∧ Fr lo2 H H' ∧ Own lo2 H' out (ws.set q0 w') ∧ Own lo2 H' w' (natsL (l ++ [i])) ∧ ∀ r, r < H.size → ¬ inRow w r → ¬ inRow out r → H'.get r = H.get r := by
  obtain ⟨r1, p1, p2, p3⟩ := placeV ha (natsL_get hA)
  obtain ⟨r2, q1, q2, q3⟩ := placeV ho hwq
  obtain ⟨u, H1, hu, hou, f1, hru, sz1⟩ := z_lay1 (H := H) (lo := H.size) (Nat.le_refl _) (.int .i64 0) (x := i64 i) rfl
  obtain ⟨w', H2, h2, ow2, f2, ro2, hin2, _⟩ := (hw.fr f1).append (Nat.le_trans hlo2 f1.size) hou.arr (by_ := 8) (roomy_small (by simp; omega))
  have e1 : natsL l ++ [i64 i] = natsL (l ++ [i]) := by simp [natsL]
  rw [e1] at ow2
  have r1lt := ha2 r1.1 p1
  have hr1w : ¬ inRow w r1.1 := fun h => by have := (own_lt hw h).1; omega
  have hr1 : r1.1 < H.size := (own_lt ha p1).2.1
  have hr2 : r2.1 < H.size := (own_lt ho q1).2.1
  have s1 : H1.get r1.1 = H.get r1.1 := f1.rows _ hr1
  have s2 : H1.get r2.1 = H.get r2.1 := f1.rows _ hr2
  have s3 : H2.get r1.1 = H1.get r1.1 := ro2 r1.1 hr1w (Nat.lt_of_lt_of_le hr1 f1.size)
  have ho2 : Own lo2 H2 out ws := Own.ofr (ho.fr f1) fun r hr => ro2 r (fun h => hsep r h hr) (own_lt (ho.fr f1) hr).2.1
  have hwr : ∀ r, inRow w' r → H.size ≤ r := fun r hr => by
    obtain ⟨s, o, a1, a2⟩ := hin2 (by simp)
    obtain ⟨s', o', a3, a4⟩ := hr
    rw [a1] at a3
    cases a3
    rw [a2] at a4
    cases a4
    exact f1.size
  obtain ⟨H3, st, ho3, f3, sz3, ro3⟩ := ho2.store (i := q0) (List.getElem?_eq_some_iff.1 hwq).1 (x := w') ow2.arr.flat .i64
  have ow3 : Own lo2 H3 w' (natsL (l ++ [i])) := Own.ofr ow2 fun r hr => ro3 r fun h => by
    have := hwr r hr
    have := (own_lt ho h).2.1
    omega
  refine ⟨w', H3, ?_, ((f1.mono hlo2).trans f2).trans f3, ho3, ow3, fun r hr h1 h2 => by rw [ro3 r h2, ro2 r h1 (Nat.lt_of_lt_of_le hr f1.size), f1.rows r hr]⟩
  have st' : ∀ k, slow.store 1 (.ptr r2) w' H2 k = k H3 := fun k => by
    have := st k
    rwa [q2] at this
  simp only [f5_j25, p2, p3, q2, q3, hu, h2, st', same_get s1, same_get s2, same_get s3]
  rw [show (SV.int .i64 1) = i64 1 from rfl, n_addi _ (by omega)]
/-- What is told so far. -/
def OutOk (lo : Nat) (H : Heap) (out : SV) (L : List (List Nat)) : Prop := ∃ ws, Own lo H out ws ∧ ws.length = L.length ∧ ∀ (q : Nat) w l, ws[q]? = some w → L[q]? = some l → Own lo H w (natsL l)
theorem out_kind {lo : Nat} {H : Heap} {out : SV} {L : List (List Nat)} {ws : List SV} (ho : Own lo H out ws) (hl : ws.length = L.length) (h : ∀ (q : Nat) w l, ws[q]? = some w → L[q]? = some l → Own lo H w (natsL l)) {q : Nat} {w : SV} {l : List Nat} (hw : ws[q]? = some w) (hq : L[q]? = some l) {r : Nat} (hr : inRow w r) : ¬ inRow out r := by
  have h1 := h q w l hw hq
  refine own_apart h1 ho (fun e => ?_) hr
  have hm : w ∈ natsL l := by rw [e]; exact List.mem_of_getElem? hw
  obtain ⟨x, _, hx⟩ := List.mem_map.1 hm
  obtain ⟨base, e2, _⟩ := h1
  rw [e2] at hx
  cases hx
theorem clip_ok (K : Nat) (d : Nat) (H : Heap) {lo : Nat} {v : SV} {ws : List SV} (ho : Own lo H v ws) : ∃ r, runQ wk tab slow K (d + 1) 12 [v] H = some (r, H) ∧ Arr H r ws := by
  obtain ⟨v', h1, h2, _, hf, _⟩ := ho.arr.slice011 (n := ws.length) (Nat.le_refl _) (.inr ho.root) .i64 .i64
  rw [List.take_length] at h2
  refine ⟨v', ?_, h2⟩
  show f12 slow K (runQ wk tab slow K d) v H = _
  simp only [f12, ho.arr.len, h1, z_rest h2.good]
/-- Slices of points. -/
def IsPts (H : Heap) (v : SV) (L : List (List Nat)) : Prop := ∃ ws, Arr H v ws ∧ ws.length = L.length ∧ ∀ (q : Nat) w l, ws[q]? = some w → L[q]? = some l → Arr H w (natsL l)
theorem emit_loop (K : Nat) (hK : 1000 < K) (d : Nat) {H0 : Heap} {E : Nat → Nat → Prop} {n : Nat} (hn : n ≤ 64) {F : Nat → Nat} (hF1 : ∀ j, F j ≤ j) (hF2 : ∀ j, F (F j) = F j) {lo1 lo2 : Nat} {p v va : SV} (hpv : ∀ r, inRow v r → p ≠ .ptr (r, 0)) (hvr : ∀ r, inRow v r → H0.size ≤ r) (hv1 : ∀ r, inRow v r → r < lo1) (ha2 : ∀ r, inRow va r → r < lo2) (h01 : H0.size ≤ lo1) (h12 : lo1 ≤ lo2) (hpa : ∀ r, inRow va r → p ≠ .ptr (r, 0)) (hp2 : ∀ r, p = .ptr (r, 0) → r < lo2) : ∀ (m i fuel : Nat) (H : Heap) (U A : List Nat) (out : SV), i + m = n → m < fuel → Frame H0 H → lo2 ≤ H.size → Own H0.size H v (natsL U) → Holds H p v → UInv E n U → (∀ j, root U j = F j) → Own lo1 H va (natsL A) → A.length = n → (∀ r, r < i → F r = r → A[r]? = some (roots F r).length) → OutOk lo2 H out (orbsTo F i) →
    ∃ r H', slow.loop5 (f5_l23 slow K (runQ wk tab slow K (d + 1))) fuel (.fn 11 [] [p]) out va (i64 n) (i64 i) H = some (.tuple [r, .int .i64 0], H') ∧ Frame H0 H' ∧ IsPts H' r (orbsTo F n)
  | 0, i, fuel, H, U, A, out, him, hf, hfr, hlo, ho, hp, hU, hUF, ha, hAl, hA, ⟨ws, hw1, hw2, hw3⟩ => by
    obtain ⟨fuel, rfl⟩ : ∃ m, fuel = m + 1 := ⟨fuel - 1, by omega⟩
    have hi : i = n := by omega
    subst hi
    obtain ⟨r, h1, h2⟩ := clip_ok K d H hw1
    refine ⟨r, H, ?_, hfr, ws, h2, hw2, fun q w l hw hl => (hw3 q w l hw hl).arr⟩
    rw [z_loop5]
    have hlt : ¬ i < i := Nat.lt_irrefl i
    simp only [f5_l23, n_lss, decide_eq_false hlt, z_cond, cond_false, h1, z_call, z_rest h2.good]
  | m + 1, i, fuel, H, U, A, out, him, hf, hfr, hlo, ho, hp, hU, hUF, ha, hAl, hA, ⟨ws, hw1, hw2, hw3⟩ => by
    obtain ⟨fuel, rfl⟩ : ∃ m, fuel = m + 1 := ⟨fuel - 1, by omega⟩
    have hi : i < n := by omega
    have hwl : ws.length ≤ 64 := by have := roots_len F i; rw [hw2, orbs_len]; omega
    obtain ⟨H1, U1, c1, ho1, hp1, hU1, hr1, on1⟩ := top_ok K hK d hpv hn hi H ho hp hU
    have ht : root U i = F i := hUF i
    have hti := hF1 i
    have s1 := on1.1
    have nva : ∀ r, inRow va r → ¬ inRow v r := fun r h1 h2 => by have := (own_lt ha h1).1; have := hv1 r h2; omega
    have ha1 : Own lo1 H1 va (natsL A) := Own.ofr ha fun r hr => on1.2 r (nva r hr)
    have nlo : ∀ r, lo2 ≤ r → ¬ inRow v r := fun r h1 h2 => by have := hv1 r h2; omega
    have hw1' : Own lo2 H1 out ws := Own.ofr hw1 fun r hr => on1.2 r (nlo r (own_lt hw1 hr).1)
    have hw3' : ∀ (q : Nat) w l, ws[q]? = some w → (orbsTo F i)[q]? = some l → Own lo2 H1 w (natsL l) := fun q w l hw hl => Own.ofr (hw3 q w l hw hl) fun r hr => on1.2 r (nlo r (own_lt (hw3 q w l hw hl) hr).1)
    have hfr1 := on1.frame hfr hvr
    by_cases hnew : F i = i
    · -- a new orbit
      obtain ⟨H2, st, ha2', f2, sz2, ro2⟩ := ha1.store (i := i) (by simp [hAl]; exact hi) (x := i64 ws.length) rfl .i64
      rw [natsL_set] at ha2'
      have nvb : ∀ r, lo2 ≤ r → ¬ inRow va r := fun r h1 h2 => by have := ha2 r h2; omega
      have hw1b : Own lo2 H2 out ws := Own.ofr hw1' fun r hr => ro2 r (nvb r (own_lt hw1' hr).1)
      have hw3b : ∀ (q : Nat) w l, ws[q]? = some w → (orbsTo F i)[q]? = some l → Own lo2 H2 w (natsL l) := fun q w l hw hl => Own.ofr (hw3' q w l hw hl) fun r hr => ro2 r (nvb r (own_lt (hw3' q w l hw hl) hr).1)
      obtain ⟨out', H3, hpu, ho3, f3, ro3, ge3⟩ := pushO hw1b (by omega) (.slice nilSl) (x := .slice nilSl) rfl (by_ := 24) (roomy_small (by omega))
      have s3 := f3.size
      have keep3 : ∀ r, r < lo2 → H3.get r = H2.get r := fun r hr => f3.rows r hr
      have ha3 : Own lo1 H3 va (natsL (A.set i ws.length)) := Own.ofr ha2' fun r hr => keep3 r (ha2 r hr)
      have hA3 : (A.set i ws.length)[i]? = some ws.length := List.getElem?_set_self (by omega)
      have hwq : (ws ++ [SV.slice nilSl])[ws.length]? = some (.slice nilSl) := by simp
      obtain ⟨w', H4, h4, f4, ho4, ow4, ro4⟩ := emit_one (runQ wk tab slow K (d + 1)) K (l := []) (t := i) (i := i) (by omega) (by simp) (by omega) ha3 ha2 hA3 ho3 hwq (Own.nil _ _) (fun r h => absurd h (nil_row r)) (.fn 11 [] [p]) (i64 n) (slow.loop5 (f5_l23 slow K (runQ wk tab slow K (d + 1))) fuel)
      have s4 := f4.size
      have e1 : (ws ++ [SV.slice nilSl]).set ws.length w' = ws ++ [w'] := by
        rw [List.set_append_right _ _ (Nat.le_refl _), Nat.sub_self]; rfl
      rw [e1] at ho4
      have low : ∀ r, r < lo2 → H4.get r = H2.get r := fun r hr => by
        rw [f4.rows r hr, keep3 r hr]
      have hv4 : Own H0.size H4 v (natsL U1) := Own.ofr ho1 fun r hr => by
        rw [low r (by have := hv1 r hr; omega), ro2 r fun h => nva r h hr]
      have hp4 : Holds H4 p v := Holds.ofr hp1 fun r e => by
        rw [low r (hp2 r e), ro2 r fun h => hpa r h e]
      have ha4 : Own lo1 H4 va (natsL (A.set i ws.length)) := Own.ofr ha2' fun r hr => low r (ha2 r hr)
      have hfr4 : Frame H0 H4 := ⟨by have := hfr1.size; omega, fun r hr => by
        rw [low r (by omega), ro2 r (fun h => by have := (own_lt ha1 h).1; omega), hfr1.rows r hr]⟩
      have hq0 : ws.length = (roots F i).length := by rw [hw2, orbs_len]
      obtain ⟨r, H5, h5, f5, g5⟩ := emit_loop K hK d hn hF1 hF2 hpv hvr hv1 ha2 h01 h12 hpa hp2 m (i + 1) fuel H4 U1 (A.set i ws.length) out' (by omega) (by omega) hfr4 (by omega) hv4 hp4 hU1 (fun j => by rw [hr1, hUF]) ha4 (by simp [hAl]) (fun r hr hFr => by
        by_cases hri : r = i
        · subst hri; rw [hA3, hq0]
        · rw [List.getElem?_set_ne (Ne.symm hri)]; exact hA r (by omega) hFr) ⟨ws ++ [w'], ho4, by rw [orbs_new hF1 hnew]; simp [hw2], fun q w l hw hl => by
          rw [orbs_new hF1 hnew] at hl
          by_cases hq : q < ws.length
          · rw [List.getElem?_append_left hq] at hw
            rw [List.getElem?_append_left (by omega)] at hl
            have hb := hw3b q w l hw hl
            refine Own.ofr hb fun r hr => ?_
            have hlt := (own_lt hb hr).2.1
            rw [ro4 r (by omega) (nil_row r) (fun h => by have := ge3 r h; omega), ro3 r (out_kind hw1b hw2 hw3b hw hl hr) hlt]
          · have hq2 : q = ws.length := by have := (List.getElem?_eq_some_iff.1 hw).1; simp at this; omega
            subst hq2
            simp at hw
            subst hw
            rw [hw2] at hl
            simp at hl
            subst hl
            exact ow4⟩
      refine ⟨r, H5, ?_, f5, g5⟩
      rw [z_loop5]
      simp only [f5_l23, n_lss, decide_eq_true hi, z_cond, cond_true, c1]
      rw [ht, n_eql, decide_eq_true hnew]
      simp only [z_cond, cond_true, hw1'.arr.len, st, hpu]
      rw [hnew, h4]
      exact h5
    · -- a point more of an orbit
      have hlt : F i < i := by omega
      have hA2 := hA (F i) hlt (hF2 i)
      have hg := orbs_get (F := F) (hF2 i) hlt
      obtain ⟨w, hwq⟩ : ∃ w, ws[(roots F (F i)).length]? = some w := ⟨_, List.getElem?_eq_getElem (by rw [hw2]; exact (List.getElem?_eq_some_iff.1 hg).1)⟩
      have how := hw3' _ w _ hwq hg
      have hcl := cls_len F i (F i)
      obtain ⟨w', H4, h4, f4, ho4, ow4, ro4⟩ := emit_one (runQ wk tab slow K (d + 1)) K (l := cls F i (F i)) (t := F i) (i := i) (by omega) (by omega) (by omega) ha1 ha2 hA2 hw1' hwq how (fun r h => out_kind hw1' hw2 hw3' hwq hg h) (.fn 11 [] [p]) (i64 n) (slow.loop5 (f5_l23 slow K (runQ wk tab slow K (d + 1))) fuel)
      have s4 := f4.size
      have low : ∀ r, r < lo2 → H4.get r = H1.get r := fun r hr => f4.rows r hr
      have hv4 : Own H0.size H4 v (natsL U1) := Own.ofr ho1 fun r hr => low r (by have := hv1 r hr; omega)
      have hp4 : Holds H4 p v := Holds.ofr hp1 fun r e => low r (hp2 r e)
      have ha4 : Own lo1 H4 va (natsL A) := Own.ofr ha1 fun r hr => low r (ha2 r hr)
      have hfr4 : Frame H0 H4 := ⟨by have := hfr1.size; omega, fun r hr => by rw [low r (by omega), hfr1.rows r hr]⟩
      obtain ⟨r, H5, h5, f5, g5⟩ := emit_loop K hK d hn hF1 hF2 hpv hvr hv1 ha2 h01 h12 hpa hp2 m (i + 1) fuel H4 U1 A out (by omega) (by omega) hfr4 (by omega) hv4 hp4 hU1 (fun j => by rw [hr1, hUF]) ha4 hAl (fun r hr hFr => by
        by_cases hri : r = i
        · subst hri; exact absurd hFr hnew
        · exact hA r (by omega) hFr) ⟨ws.set (roots F (F i)).length w', ho4, by rw [orbs_old rfl (hF2 i) hlt]; simp [hw2], fun q x l hx hl => by
          rw [orbs_old rfl (hF2 i) hlt] at hl
          by_cases hq : (roots F (F i)).length = q
          · subst hq
            rw [List.getElem?_set_self (List.getElem?_eq_some_iff.1 hwq).1] at hx
            rw [List.getElem?_set_self (List.getElem?_eq_some_iff.1 hg).1] at hl
            cases hx
            cases hl
            exact ow4
          · rw [List.getElem?_set_ne hq] at hx hl
            have hb := hw3' q x l hx hl
            refine Own.ofr hb fun r hr => ro4 r (own_lt hb hr).2.1 (own_apart hb how (fun e => ?_) hr) (out_kind hw1' hw2 hw3' hx hl hr)
            have e2 := natsL_inj e
            rw [e2] at hl
            exact hq (orbs_apart hg hl)⟩
      refine ⟨r, H5, ?_, f5, g5⟩
      rw [z_loop5]
      simp only [f5_l23, n_lss, decide_eq_true hi, z_cond, cond_true, c1]
      rw [ht, n_eql, decide_eq_false hnew]
      simp only [z_cond, cond_false]
      rw [h4]
      exact h5
end Go.Sh.Of
