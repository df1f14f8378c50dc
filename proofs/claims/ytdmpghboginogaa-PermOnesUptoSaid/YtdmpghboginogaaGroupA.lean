/- Permutations are a group: what is computed. -/
import Derived.Test.YtdmpghboginogaaCycB
set_option linter.unusedVariables false
set_option linter.unusedSimpArgs false
namespace Go.Sh.Of
open Go

/-- A list that is a permutation of n points. -/
structure IsP (l : List Int) (n : Nat) (f : Nat → Nat) : Prop where
  fn : IsFn l n f
  inj : InjOn f n
  lt : ∀ x, x < n → f x < n
  le : n ≤ 64
theorem IsP.of {l : List Int} {n : Nat} (h : ckE l = 0) (hl : l.length = n) : IsP l n (fnI l) := by
  subst hl
  obtain ⟨a, b, c⟩ := ck_fn h
  exact ⟨a, b, c, (ck_zero h).1⟩
theorem IsP.ck {l : List Int} {n : Nat} {f : Nat → Nat} (h : IsP l n f) : ckE l = 0 := fn_ck h.fn h.le h.inj h.lt
theorem IsP.len {l : List Int} {n : Nat} {f : Nat → Nat} (h : IsP l n f) : l.length = n := h.fn.1
theorem IsP.done {p q : List Int} {n : Nat} {f g : Nat → Nat} (hp : IsP p n f) (hq : IsP q n g) : IsP (doneL p q) n (fun i => g (f i)) := by
  refine ⟨⟨by simp [doneL, hp.len], fun i hi => ?_⟩, fun a b ha hb e => hp.inj a b ha hb (hq.inj _ _ (hp.lt a ha) (hp.lt b hb) e), fun x hx => hq.lt _ (hp.lt x hx), hp.le⟩
  unfold doneL
  rw [List.getElem?_map, hp.fn.2 i hi, Option.map_some, Int.toNat_natCast, hq.fn.2 _ (hp.lt i hi)]
  rfl
theorem IsP.inv {p l : List Int} {n : Nat} {f : Nat → Nat} (hp : IsP p n f) (h : IsInv p l) : ∃ g, IsP l n g ∧ ∀ i, i < n → g (f i) = i := by
  have key : ∀ y, y < n → ∃ j, j < n ∧ f j = y ∧ l[y]? = some (j : Int) := fun y hy => by
    obtain ⟨j, hj, e⟩ := surj hp.inj hp.lt hy
    exact ⟨j, hj, e, h.2 j y (by rw [hp.fn.2 j hj, e])⟩
  have hg : ∀ i, i < n → fnI l (f i) = i := fun i hi => by
    obtain ⟨j, hj, e, hl⟩ := key (f i) (hp.lt i hi)
    have : j = i := hp.inj j i hj hi e
    subst this
    simp [fnI, List.getD, hl]
  refine ⟨fnI l, ⟨⟨by rw [h.1, hp.len], fun y hy => ?_⟩, fun a b ha hb e => ?_, fun y hy => ?_, hp.le⟩, hg⟩
  · obtain ⟨j, hj, e, hl⟩ := key y hy
    rw [hl, ← e, hg j hj]
  · obtain ⟨j, hj, ej, _⟩ := key a ha
    obtain ⟨k, hk, ek, _⟩ := key b hb
    rw [← ej, ← ek, hg j hj, hg k hk] at e
    rw [← ej, ← ek, e]
  · obtain ⟨j, hj, e, hl⟩ := key y hy
    rw [← e, hg j hj]
    exact hj
theorem mulP_ok (K : Nat) (hK : 1000 < K) (d : Nat) (H : Heap) {v w : SV} {p q : List Int} {n : Nat} {f g : Nat → Nat} (hp : IsP p n f) (hq : IsP q n g) (hv : Arr H v (intsL .i64 p)) (hw : Arr H w (intsL .i64 q)) :
    ∃ r H', runQ wk tab slow K (d + 20) 7 [v, w] H = some (.tuple [r, .int .i64 0], H') ∧ Frame H H' ∧ Arr H' r (intsL .i64 (doneL p q)) := by
  obtain ⟨r, H', h1, h2, h3⟩ := mul_ok K (by omega) (d + 17) H hv hw
  have e : mulE p q = 0 := by simp [mulE, hp.ck, hq.ck, hp.len, hq.len]
  rw [show d + 17 + 3 = d + 20 from rfl, e] at h1
  unfold mulL at h3
  rw [if_pos e] at h3
  exact ⟨r, H', h1, h2, h3⟩
theorem invP_ok (K : Nat) (hK : 1000 < K) (d : Nat) (H : Heap) {v : SV} {p : List Int} {n : Nat} {f : Nat → Nat} (hp : IsP p n f) (hv : Arr H v (intsL .i64 p)) :
    ∃ r H' l g, runQ wk tab slow K (d + 20) 8 [v] H = some (.tuple [r, .int .i64 0], H') ∧ Frame H H' ∧ Arr H' r (intsL .i64 l) ∧ IsP l n g ∧ ∀ i, i < n → g (f i) = i := by
  obtain ⟨r, H', h1, h2, h3, _⟩ := inv_ok K hK (d + 18) H hv
  rw [show d + 18 + 2 = d + 20 from rfl, hp.ck] at h1
  obtain ⟨l, o, hi⟩ := h3 hp.ck
  obtain ⟨g, hg, e⟩ := hp.inv hi
  exact ⟨r, H', l, g, h1, h2, o.arr, hg, e⟩
theorem evenP_ok (K : Nat) (hK : 1000 < K) (d : Nat) (H : Heap) {v : SV} {p : List Int} {n : Nat} {f : Nat → Nat} (hp : IsP p n f) (hv : Arr H v (intsL .i64 p)) :
    ∃ H', runQ wk tab slow K (d + 20) 9 [v] H = some (.tuple [.bool (!odd f n), .int .i64 0], H') ∧ Frame H H' := by
  obtain ⟨H', h1, h2⟩ := even_ok K hK (d + 17) H hv
  rw [show d + 17 + 3 = d + 20 from rfl, hp.ck, decide_eq_true rfl, Bool.true_and, hp.len, odd_congr (q := f) fun k hk => fn_fnI hp.fn hk] at h1
  exact ⟨H', h1, h2⟩
theorem psameP_ok (K : Nat) (hK : 1000 < K) (d : Nat) (H : Heap) {v w : SV} {p q : List Int} {n : Nat} {f g : Nat → Nat} (hp : IsP p n f) (hq : IsP q n g) (he : ∀ i, i < n → f i = g i) (hv : Arr H v (intsL .i64 p)) (hw : Arr H w (intsL .i64 q)) :
    runQ wk tab slow K (d + 20) 10 [v, w] H = some (.bool true, H) := by
  have hl := hp.len
  have hn := hp.le
  have h := psame_ok K (d + 19) H hv hw (by omega) (by omega)
  rw [show d + 19 + 1 = d + 20 from rfl, decide_eq_true (fn_eq hp.fn hq.fn he)] at h
  exact h
theorem group_ok (K : Nat) (hK : 100000 < K) (d : Nat) (H : Heap) {a b c : SV} {p q r : List Int} (ha : Arr H a (intsL .u8 p)) (hb : Arr H b (intsL .u8 q)) (hc : Arr H c (intsL .u8 r)) (hp : ∀ x ∈ p, 0 ≤ x ∧ x < 256) (hq : ∀ x ∈ q, 0 ≤ x ∧ x < 256) (hr : ∀ x ∈ r, 0 ≤ x ∧ x < 256) {N : Nat} (hN : N < 256) :
    ∃ H', runQ wk tab slow K (d + 21) 3 [a, b, c, u8 N] H = some (.bool true, H') := by
  have hw : ∀ H, runQ wk tab slow K (d + 20) 12 [] H = some (.bool true, H) := fun H => rfl
  obtain ⟨n, hn⟩ : ∃ n, N % 64 + 1 = n := ⟨_, rfl⟩
  have hn1 : 0 < n := by omega
  have hn2 : n ≤ 64 := by have := Nat.mod_lt N (show 0 < 64 by omega); omega
  have hK1 : 1000 < K := by omega
  obtain ⟨v4, H5, lp, h4, f5, o4, l4, k4⟩ := shuf_ok K hK1 (d + 19) H hn1 hn2 ha hp
  rw [show d + 19 + 1 = d + 20 from rfl] at h4
  obtain ⟨v6, H7, lq, h6, f7, o6, l6, k6⟩ := shuf_ok K hK1 (d + 19) H5 hn1 hn2 (hb.fr f5) hq
  rw [show d + 19 + 1 = d + 20 from rfl] at h6
  obtain ⟨v8, H9, lr, h8, f9', o8, l8, k8⟩ := shuf_ok K hK1 (d + 19) H7 hn1 hn2 ((hc.fr f5).fr f7) hr
  rw [show d + 19 + 1 = d + 20 from rfl] at h8
  have P := IsP.of k4 l4
  have Q := IsP.of k6 l6
  have R := IsP.of k8 l8
  have a4 : Arr H9 v4 (intsL .i64 lp) := (o4.arr.fr f7).fr f9'
  have a6 : Arr H9 v6 (intsL .i64 lq) := o6.arr.fr f9'
  have a8 : Arr H9 v8 (intsL .i64 lr) := o8.arr
  obtain ⟨v12, H11, h10, f11', a12⟩ := mulP_ok K hK1 d H9 P Q a4 a6
  have PQ := P.done Q
  obtain ⟨v16, H15, h14, f15, a16⟩ := mulP_ok K hK1 d H11 PQ R a12 (a8.fr f11')
  obtain ⟨v20, H19, h18, f19, a20⟩ := mulP_ok K hK1 d H15 Q R ((a6.fr f11').fr f15) ((a8.fr f11').fr f15)
  have F19 : Frame H9 H19 := f11'.trans (f15.trans f19)
  obtain ⟨v24, H23, h22, f23, a24⟩ := mulP_ok K hK1 d H19 P (Q.done R) (a4.fr F19) a20
  have F23 : Frame H9 H23 := F19.trans f23
  obtain ⟨v28, H27, li, fi, h26, f27, a28, I, ei⟩ := invP_ok K hK1 d H23 P (a4.fr F23)
  have F27 : Frame H9 H27 := F23.trans f27
  obtain ⟨v32, H31, lj, fj, h30, f31, a32, J, ej⟩ := invP_ok K hK1 d H27 Q (a6.fr F27)
  have F31 : Frame H9 H31 := F27.trans f31
  have G31 : Frame H11 H31 := f15.trans (f19.trans (f23.trans (f27.trans f31)))
  obtain ⟨v36, H35, lu, fu, h34, f35, a36, U, eu⟩ := invP_ok K hK1 d H31 PQ (a12.fr G31)
  have F35 : Frame H9 H35 := F31.trans f35
  have a28' : Arr H35 v28 (intsL .i64 li) := (a28.fr f31).fr f35
  obtain ⟨v40, H39, h38, f39, a40⟩ := mulP_ok K hK1 d H35 J I (a32.fr f35) a28'
  have F39 : Frame H9 H39 := F35.trans f39
  obtain ⟨v44, H43, h42, f43, a44⟩ := mulP_ok K hK1 d H39 P I (a4.fr F39) (a28'.fr f39)
  have F43 : Frame H9 H43 := F39.trans f43
  obtain ⟨H47, h46, f47⟩ := evenP_ok K hK1 d H43 P (a4.fr F43)
  have F47 : Frame H9 H47 := F43.trans f47
  obtain ⟨H51, h50, f51⟩ := evenP_ok K hK1 d H47 Q (a6.fr F47)
  have G51 : Frame H31 H51 := f35.trans (f39.trans (f43.trans (f47.trans f51)))
  obtain ⟨H55, h54, f55⟩ := evenP_ok K hK1 d H51 PQ ((a12.fr G31).fr G51)
  have X16 : Arr H55 v16 (intsL .i64 (doneL (doneL lp lq) lr)) := a16.fr (f19.trans (f23.trans (f27.trans (f31.trans (G51.trans f55)))))
  have X24 : Arr H55 v24 (intsL .i64 (doneL lp (doneL lq lr))) := a24.fr (f27.trans (f31.trans (G51.trans f55)))
  have X36 : Arr H55 v36 (intsL .i64 lu) := a36.fr (f39.trans (f43.trans (f47.trans (f51.trans f55))))
  have X40 : Arr H55 v40 (intsL .i64 (doneL lj li)) := a40.fr (f43.trans (f47.trans (f51.trans f55)))
  have X44 : Arr H55 v44 (intsL .i64 (doneL lp li)) := a44.fr (f47.trans (f51.trans f55))
  have s1 := psameP_ok K hK1 d H55 (PQ.done R) (P.done (Q.done R)) (fun i _ => rfl) X16 X24
  have s2 := psameP_ok K hK1 d H55 U (J.done I) (fun y hy => by
    obtain ⟨i, hi, e⟩ := surj PQ.inj PQ.lt hy
    have e1 : fu (fnI lq (fnI lp i)) = i := eu i hi
    have e2 := ej (fnI lp i) (P.lt i hi)
    have e3 := ei i hi
    have e0 : fnI lq (fnI lp i) = y := e
    show fu y = fi (fj y)
    rw [← e0, e1, e2, e3]) X36 X40
  have W := P.done I
  have hwl := W.len
  have s3 := still_ok K (d + 19) H55 X44 (by omega) (by omega) (fun i hi => by
    have hi' : i < n := by omega
    have e9 : (doneL lp li)[i]? = some ((fi (fnI lp i) : Nat) : Int) := W.fn.2 i hi'
    rw [e9, ei i hi'])
  rw [show d + 19 + 1 = d + 20 from rfl] at s3
  have s4 := odd_mul P.inj P.lt Q.inj
  have s5 : ((!odd (fun i => fnI lq (fnI lp i)) n) == ((!odd (fnI lp) n) == (!odd (fnI lq) n))) = true := by
    rw [s4]
    cases odd (fnI lp) n <;> cases odd (fnI lq) n <;> rfl
  have s6 : ∀ k, slow.len v44 k = k (i64 n) := fun k => by rw [alen X44, hwl]
  refine ⟨H55, ?_⟩
  show f3 slow K (runQ wk tab slow K (d + 20)) a b c (u8 N) H = _
  simp only [f3]
  rw [n_convi _ .u8 N (by omega), show (SV.int .i64 64) = i64 64 from rfl, n_rem _ .i64 N (by omega), show (SV.int .i64 1) = i64 1 from rfl, n_addi _ (by omega), hn]
  simp only [h4, h6, h8, h10, h14, h18, h22, h26, h30, h34, h38, h42, h46, h50, h54, z_call, z_ext0, z_ext1, z_eql, beq_self_eq_true, z_guard, cond_true, s1, s2, s3, s6, z_beql, s5, hw, f3_j1, z_rest_bool]
end Go.Sh.Of
