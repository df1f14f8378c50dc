/- PermOnes: what is computed, put together. -/
import Derived.Test.YtdmpghboginogaaOneC
set_option linter.unusedVariables false
set_option linter.unusedSimpArgs false
namespace Go.Sh.Of
open Go

theorem over_all (K : Nat) (hK : 1000 < K) (C : CallC) {p q c d2 : SV} {B : Bool} {lo hi : Nat} {cs : List (List Nat)} {ws : List SV} {G : Heap} (hkeep : ∀ H H', Arr H c ws → (∀ r, (∀ w ∈ ws, ¬ inRow w r) → H'.get r = H.get r) → Arr H' c ws) (hwl : ws.length = cs.length) (hcl : cs.length ≤ 64) (hll : ∀ l ∈ cs, l.length ≤ 64) (fin : ∀ (H' : Heap) (fuel : Nat), Arr H' c ws → (∀ r, (∀ w ∈ ws, ¬ inRow w r) → H'.get r = G.get r) → H'.size = G.size → ∃ H'', slow.loop6 (f5_l6 slow K C) (fuel + 1) p q c d2 (.bool B) (i64 cs.length) H' = some (.bool true, H'')) : ∀ (m a fuel : Nat) (H : Heap), a + m = cs.length → m < fuel → OverInv lo hi H c ws cs → (∀ r, (∀ w ∈ ws, ¬ inRow w r) → H.get r = G.get r) → H.size = G.size →
    ∃ H', slow.loop6 (f5_l6 slow K C) fuel p q c d2 (.bool B) (i64 a) H = some (.bool true, H')
  | 0, a, fuel, H, ha, hf, ho, hg, hs => by
    obtain ⟨fuel, rfl⟩ : ∃ m, fuel = m + 1 := ⟨fuel - 1, by omega⟩
    have e : a = cs.length := by omega
    rw [e]
    exact fin H fuel ho.out hg hs
  | m + 1, a, fuel, H, ha, hf, ho, hg, hs => by
    obtain ⟨fuel, rfl⟩ : ∃ m, fuel = m + 1 := ⟨fuel - 1, by omega⟩
    have hlt : a < cs.length := by omega
    obtain ⟨l, hl⟩ : ∃ l, cs[a]? = some l := ⟨_, List.getElem?_eq_getElem hlt⟩
    obtain ⟨w, hw⟩ : ∃ w, ws[a]? = some w := ⟨_, List.getElem?_eq_getElem (by omega)⟩
    have hl64 := hll l (List.mem_of_getElem? hl)
    have hcn : ∀ k, slow.len c k = k (i64 cs.length) := fun k => by rw [ho.out.len, hwl]
    obtain ⟨H1, h1, o1, s1, r1⟩ := over_in K C (p := p) (q := q) (d2 := d2) (B := B) hkeep hw hl hl64 (by omega) (slow.loop6 (f5_l6 slow K C) fuel) l.length 0 K H (by omega) (by omega) ho
    obtain ⟨H2, h2⟩ := over_all K hK C hkeep hwl hcl hll fin m (a + 1) fuel H1 (by omega) (by omega) o1 (fun r hr => (r1 r hr).trans (hg r hr)) (s1.trans hs)
    refine ⟨H2, ?_⟩
    rw [z_loop6]
    simp only [f5_l6, hcn, n_lss, decide_eq_true hlt, z_cond, cond_true]
    exact h1.trans h2
theorem OutOk.fr {lo : Nat} {H H' : Heap} {v : SV} {cs : List (List Nat)} (h : OutOk lo H v cs) (f : Frame H H') : OutOk lo H' v cs := by
  obtain ⟨ws, w1, w2, w3⟩ := h
  exact ⟨ws, w1.fr f, w2, fun q w l hw hl => (w3 q w l hw hl).fr f⟩
theorem OutOk.pts {lo : Nat} {H : Heap} {v : SV} {cs : List (List Nat)} (h : OutOk lo H v cs) : IsPts H v cs := by
  obtain ⟨ws, w1, w2, w3⟩ := h
  exact ⟨ws, w1.arr, w2, fun q w l hw hl => (w3 q w l hw hl).arr⟩
theorem OutOk.nil (lo : Nat) (H : Heap) : OutOk lo H (.slice nilSl) [] := ⟨[], Own.nil _ _, rfl, fun q w l hw => by simp at hw⟩
theorem inv_all {l li : List Int} (h : IsInv l li) (h0 : ckE l = 0) : li.length ≤ 64 := by
  rw [h.1]
  exact (ck_zero h0).1
theorem ones_ok (K : Nat) (hK : 3000000 < K) (d : Nat) (H : Heap) {a : SV} {l : List Int} (ha : Arr H a (intsL .i64 l)) (hl : l.length < 3000000) :
    ∃ H', runQ wk tab slow K (d + 21) 5 [a] H = some (.bool true, H') := by
  have hK1 : 1000 < K := by omega
  have hw : ∀ H, runQ wk tab slow K (d + 20) 12 [] H = some (.bool true, H) := fun H => rfl
  obtain ⟨v1, H1, h1, o1, g1⟩ := z_lay0 (H := H) (lo := H.size) (Nat.le_refl _)
  obtain ⟨v3, H4, h3, o3, g3, _⟩ := o1.append g1.size (ha.fr g1) (by_ := 8) (roomy_small (by simp; omega))
  rw [List.nil_append] at o3
  have G4 : Frame H H4 := Fr.trans g1 g3
  obtain ⟨v5, H6, h5, o5, g5, _, _⟩ := z_lay1 (H := H4) (lo := H4.size) (Nat.le_refl _) (.int .i64 0) (x := .int .i64 77) rfl
  have G6 : Frame H H6 := Frame.trans G4 g5
  obtain ⟨v7, H8, h7, o7, g7, _⟩ := (o3.fr g5).append G6.size o5.arr (by_ := 8) (roomy_small (by simp; omega))
  have G8 : Frame H H8 := Fr.trans G6 g7
  have hne : intsL .i64 l ++ [SV.int .i64 77] ≠ [] := by simp
  have hlen : (intsL .i64 l ++ [SV.int .i64 77]).length = l.length + 1 := by simp
  obtain ⟨r0, r0lo, r0hi, rfl, hs⟩ := slice_own o7 hne
  rw [hlen] at hs h7
  have h10 : ∀ k, slow.slice010 1 (.slice ⟨some (r0, 0), l.length + 1, none, 0⟩) (.int .i64 l.length) H8 k = k (.slice ⟨some (r0, 0), l.length, none, 0⟩) := fun k => (hs H8 rfl).2 _ l.length .i64 k (by omega)
  have haq : ∀ H', H'.get r0 = H8.get r0 → Arr H' (.slice ⟨some (r0, 0), l.length, none, 0⟩) (intsL .i64 l) := fun H' h => by
    have := (hs H' h).1 l.length (by omega)
    rwa [List.take_left' (by simp)] at this
  have ha11 : ∀ H', H'.get r0 = H8.get r0 → Arr H' (.slice ⟨some (r0, 0), l.length + 1, none, 0⟩) (intsL .i64 l ++ [SV.int .i64 77]) := fun H' h => by
    have := (hs H' h).1 (l.length + 1) (Nat.le_refl _)
    rwa [List.take_of_length_le (by rw [hlen]; exact Nat.le_refl _)] at this
  have h11 : ∀ H', H'.get r0 = H8.get r0 → ∀ k, slow.slice010 1 (.slice ⟨some (r0, 0), l.length, none, 0⟩) (i64 (l.length + 1)) H' k = k (.slice ⟨some (r0, 0), l.length + 1, none, 0⟩) := fun H' h k => (hs H' h).2 _ (l.length + 1) .i64 k (Nat.le_refl _)
  clear hs
  obtain ⟨q, hq⟩ : ∃ q, q = SV.slice ⟨some (r0, 0), l.length, none, 0⟩ := ⟨_, rfl⟩
  rw [← hq] at h10 haq h11
  clear hq
  have aq8 := haq H8 rfl
  have aa8 := ha.fr G8
  -- Inverse
  obtain ⟨iv, H12, q1, e1, i1, i2⟩ := inv_ok K hK1 (d + 18) H8 aq8
  rw [show d + 18 + 2 = d + 20 from rfl] at q1
  obtain ⟨li, oi, li64, li0, li1⟩ : ∃ li, Own H8.size H12 iv (intsL .i64 li) ∧ li.length ≤ 64 ∧ (ckE l = 0 → IsInv l li) ∧ (ckE l ≠ 0 → li = []) := by
    by_cases h0 : ckE l = 0
    · obtain ⟨li, o, i⟩ := i1 h0
      exact ⟨li, o, inv_all i h0, fun _ => i, fun h => absurd h0 h⟩
    · rw [i2 h0]
      exact ⟨[], Own.nil _ _, by simp, fun h => absurd h h0, fun _ => rfl⟩
  obtain ⟨jv, H16, q2, e2, j1, j2⟩ := rinv_ok K hK1 (d + 18) H12 (aa8.fr e1)
  rw [show d + 18 + 2 = d + 20 from rfl] at q2
  have aj : Arr H16 jv (intsL .i64 li) := by
    by_cases h0 : ckE l = 0
    · obtain ⟨lj, o, i⟩ := j1 h0
      rw [(li0 h0).uniq h0 i]
      exact o.arr
    · rw [j2 h0, li1 h0]
      exact (Own.nil 0 _).arr
  -- Cycles
  have E16 : Frame H8 H16 := e1.trans e2
  obtain ⟨cv, H20, q3, e3, c1, c2⟩ := cycles_ok K hK1 (d + 18) H16 (aq8.fr E16)
  rw [show d + 18 + 2 = d + 20 from rfl] at q3
  obtain ⟨cs, oc, cs64, csl, cs0, cs1⟩ : ∃ cs, OutOk H16.size H20 cv cs ∧ cs.length ≤ 64 ∧ (∀ x ∈ cs, x.length ≤ 64) ∧ (ckE l = 0 → CycTo (fnI l) l.length cs) ∧ (ckE l ≠ 0 → cs = []) := by
    by_cases h0 : ckE l = 0
    · obtain ⟨cs, o, i⟩ := c1 h0
      have := cyc_len i
      have := (ck_zero h0).1
      exact ⟨cs, o, by omega, cyc_le h0 i, fun _ => i, fun h => absurd h0 h⟩
    · rw [c2 h0]
      exact ⟨[], OutOk.nil _ _, by simp, fun x hx => (by cases hx), fun h => absurd h h0, fun _ => rfl⟩
  obtain ⟨dv, H24, q4, e4, d1, d2⟩ := rcyc_ok K hK1 (d + 18) H20 ((aa8.fr E16).fr e3)
  rw [show d + 18 + 2 = d + 20 from rfl] at q4
  have od : OutOk H20.size H24 dv cs := by
    by_cases h0 : ckE l = 0
    · obtain ⟨cs', o, i⟩ := d1 h0
      rw [(cs0 h0).uniq i]
      exact o
    · rw [d2 h0, cs1 h0]
      exact OutOk.nil _ _
  -- Order
  have E24 : Frame H8 H24 := E16.trans (e3.trans e4)
  obtain ⟨s, H28, q5, e5, s1, s2⟩ := order_ok K (by omega) (d + 14) H24 (aq8.fr E24)
  rw [show d + 14 + 6 = d + 20 from rfl] at q5
  obtain ⟨s', H32, q6, e6, t1, t2⟩ := rorder_ok K hK (d + 14) H28 ((aa8.fr E24).fr e5)
  rw [show d + 14 + 6 = d + 20 from rfl] at q6
  have hss : s' = s := by
    by_cases h0 : ckE l = 0
    · obtain ⟨ca, ha', rfl⟩ := s1 h0
      obtain ⟨cb, hb', rfl⟩ := t1 h0
      rw [ha'.uniq hb']
    · rw [s2 h0, t2 h0]
  subst hss
  -- Even
  have E32 : Frame H8 H32 := E24.trans (e5.trans e6)
  obtain ⟨H36, q7, e7⟩ := even_ok K hK1 (d + 17) H32 (aq8.fr E32)
  rw [show d + 17 + 3 = d + 20 from rfl] at q7
  obtain ⟨H40, q8, e8⟩ := reven_ok K hK1 (d + 18) H36 ((aa8.fr E32).fr e7)
  rw [show d + 18 + 2 = d + 20 from rfl] at q8
  have E40 : Frame H8 H40 := E32.trans (e7.trans e8)
  have q9 := check_ok K (by omega) (d + 19) H40 (aq8.fr E40)
  rw [show d + 19 + 1 = d + 20 from rfl] at q9
  obtain ⟨H46, q10, e10⟩ := rcheck_ok K (by omega) (d + 19) H40 (aa8.fr E40)
  rw [show d + 19 + 1 = d + 20 from rfl] at q10
  have E46 : Frame H8 H46 := E40.trans e10
  have F24 : Frame H24 H46 := e5.trans (e6.trans (e7.trans (e8.trans e10)))
  have F20 : Frame H20 H46 := e4.trans F24
  have F16 : Frame H16 H46 := e3.trans F20
  have F12 : Frame H12 H46 := e2.trans F16
  have q11 := same_ok K (d + 19) H46 (oi.arr.fr F12) (aj.fr F16) (by omega) (by omega)
  rw [show d + 19 + 1 = d + 20 from rfl, decide_eq_true rfl] at q11
  have q12 := sameall_ok K (by omega) (d + 18) H46 (oc.fr F20).pts (od.fr F24).pts (by omega) (fun x hx => by have := csl x hx; omega)
  rw [show d + 18 + 2 = d + 20 from rfl] at q12
  -- what is told is written over
  have s12 : H8.size ≤ H12.size := e1.size
  have s16 : H12.size ≤ H16.size := e2.size
  have s20 : H16.size ≤ H20.size := e3.size
  have s46 : H8.size ≤ H46.size := E46.size
  obtain ⟨H47, q13, z47, k47⟩ := over_inv K (runQ wk tab slow K (d + 20)) (p := a) (q := q) (c := cv) (d2 := dv) (w := iv) (B := true) (lo := H8.size) li.length 0 K H46 (by omega) (by omega) li64 ⟨_, oi.fr F12, by simp⟩
  have ivr : ∀ r, inRow iv r → H8.size ≤ r ∧ r < H12.size := fun r hr => ⟨(own_lt oi hr).1, (own_lt oi hr).2.1⟩
  obtain ⟨ws, w1, w2, w3⟩ := oc
  have wsr : ∀ w ∈ ws, ∀ r, inRow w r → H16.size ≤ r ∧ r < H20.size ∧ ¬ inRow cv r := fun w hwm r hr => by
    obtain ⟨qi, hqi⟩ := List.getElem?_of_mem hwm
    have hqi' := (List.getElem?_eq_some_iff.1 hqi).1
    obtain ⟨x, hx⟩ : ∃ x, cs[qi]? = some x := ⟨_, List.getElem?_eq_getElem (by omega)⟩
    have := w3 qi w x hqi hx
    exact ⟨(own_lt this hr).1, (own_lt this hr).2.1, out_kind w1 w2 w3 hqi hx hr⟩
  have cvr : ∀ r, inRow cv r → H16.size ≤ r ∧ r < H20.size := fun r hr => ⟨(own_lt w1 hr).1, (own_lt w1 hr).2.1⟩
  have hkeep : ∀ A A' : Heap, Arr A cv ws → (∀ r, (∀ w ∈ ws, ¬ inRow w r) → A'.get r = A.get r) → Arr A' cv ws := fun A A' hA hr => by
    obtain ⟨base, e, _⟩ := w1
    obtain ⟨sl, e2, e3, h3⟩ := hA
    refine ⟨sl, e2, e3, ?_⟩
    rcases h3 with h3 | ⟨r, o, row, b1, b2, b3, b4⟩
    · exact .inl h3
    · refine .inr ⟨r, o, row, b1, ?_, b3, b4⟩
      rw [hr r fun w hwm hir => (wsr w hwm r hir).2.2 ⟨sl, o, e2, b1⟩]
      exact b2
  have inv47 : OverInv H16.size H20.size H47 cv ws cs := ⟨(Own.ofr (w1.fr F20) fun r hr => k47 r fun h => by
      have := ivr r h
      have := cvr r hr
      omega).arr, fun qi w x hqi hx => ⟨_, Own.ofr ((w3 qi w x hqi hx).fr F20) fun r hr => k47 r fun h => by
      have := ivr r h
      have := wsr w (List.mem_of_getElem? hqi) r hr
      omega, natsL_len x⟩⟩
  have hfin : ∀ (H' : Heap) (fuel : Nat), Arr H' cv ws → (∀ r, (∀ w ∈ ws, ¬ inRow w r) → H'.get r = H47.get r) → H'.size = H47.size → ∃ H'', slow.loop6 (f5_l6 slow K (runQ wk tab slow K (d + 20))) (fuel + 1) a q cv dv (.bool true) (i64 cs.length) H' = some (.bool true, H'') := fun H' fuel hA hk hz => by
    have keep : ∀ r, (r < H8.size ∨ H20.size ≤ r) → H'.get r = H46.get r := fun r hr => by
      rw [hk r fun w hwm hir => by
        have := wsr w hwm r hir
        omega]
      exact k47 r fun h => by
        have := ivr r h
        omega
    have E' : Frame H8 H' := ⟨by omega, fun r hr => (keep r (.inl hr)).trans (E46.rows r hr)⟩
    obtain ⟨av, H50, m1, n1, a1, a2⟩ := cycles_ok K hK1 (d + 18) H' (aq8.fr E')
    rw [show d + 18 + 2 = d + 20 from rfl] at m1
    have oa : OutOk H'.size H50 av cs := by
      by_cases h0 : ckE l = 0
      · obtain ⟨cs', o, i⟩ := a1 h0
        rw [(cs0 h0).uniq i]
        exact o
      · rw [a2 h0, cs1 h0]
        exact OutOk.nil _ _
    have od' : OutOk H20.size H' dv cs := by
      obtain ⟨us, u1, u2, u3⟩ := od.fr F24
      exact ⟨us, Own.ofr u1 fun r hr => keep r (.inr (own_lt u1 hr).1), u2, fun qi w x hqi hx => Own.ofr (u3 qi w x hqi hx) fun r hr => keep r (.inr (own_lt (u3 qi w x hqi hx) hr).1)⟩
    have E50 : Frame H8 H50 := E'.trans n1
    have m2 := sameall_ok K (by omega) (d + 18) H50 oa.pts (od'.fr n1).pts (by omega) (fun x hx => by have := csl x hx; omega)
    rw [show d + 18 + 2 = d + 20 from rfl] at m2
    have m3 := same_ok K (d + 19) H50 (aq8.fr E50) (aa8.fr E50) (by omega) (by omega)
    rw [show d + 19 + 1 = d + 20 from rfl, decide_eq_true rfl] at m3
    have hr50 := E50.rows r0 r0hi
    have hcn : ∀ k, slow.len cv k = k (i64 cs.length) := fun k => by rw [hA.len, w2]
    have hlt : ¬ cs.length < cs.length := Nat.lt_irrefl _
    have hadd : ∀ k, slow.add (i64 l.length) (.int .i64 1) k = k (i64 (l.length + 1)) := fun k => n_addi k (b := 1) (by omega)
    have hld : ∀ k, slow.idx 1 (.slice ⟨some (r0, 0), l.length + 1, none, 0⟩) (i64 l.length) (fun p => slow.load 1 false p H50 k) = k (.int .i64 77) := fun k => (ha11 H50 hr50).load (i := l.length) (by rw [List.getElem?_append_right (by simp)]; simp) .i64 k
    refine ⟨H50, ?_⟩
    rw [z_loop6]
    simp only [f5_l6, hcn, n_lss, decide_eq_false hlt, z_cond, cond_false, m1, z_call, z_ext0, z_ext1, z_guard, cond_true, m2, m3, alen (aa8.fr E50), hadd, h11 H50 hr50, hld, z_eql, beq_self_eq_true, hw, f5_j14, z_rest_bool]
  obtain ⟨H60, q14⟩ := over_all K hK1 (runQ wk tab slow K (d + 20)) hkeep w2 cs64 csl hfin cs.length 0 K H47 (by omega) (by omega) inv47 (fun _ _ => rfl) rfl
  refine ⟨H60, ?_⟩
  show f5 slow K (runQ wk tab slow K (d + 20)) a H = _
  simp only [f5, h1, h3, h5, h7, alen ha, h10, q1, q2, q3, q4, q5, q6, q7, q8, q9, q10, q11, q12, z_call, z_ext0, z_ext1, z_eql, z_seql, z_beql, beq_self_eq_true, z_guard, cond_true, f5_j1]
  exact q13.trans q14
end Go.Sh.Of
