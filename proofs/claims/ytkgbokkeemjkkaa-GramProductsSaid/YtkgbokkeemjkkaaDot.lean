/- Contracts of gram: dot, Dot, Norm. -/
import Derived.Test.YtkgbokkeemjkkaaChk
set_option linter.unusedVariables false
set_option linter.unusedSimpArgs false
namespace Go.Sh.Of
open Go Go.Sh

theorem Arr.loadP {H : Heap} {v : SV} {cs : List SV} (h : Arr H v cs) {i : Nat} {x : SV} (hx : cs[i]? = some x) (kd : IntKind) :
    ∃ p, (∀ k, slow.idx 1 v (.int kd i) k = k p) ∧ (∀ k, slow.load 1 false p H k = k x) ∧ ∀ H' t, Frame H H' → slow.same p H H' t = t := by
  obtain ⟨s, rfl, h2, h3⟩ := h
  have hi : i < cs.length := (List.getElem?_eq_some_iff.1 hx).1
  rcases h3 with rfl | ⟨r, o, row, b1, b2, b3, b4⟩
  · simp at hi
  · have hc : 0 ≤ (i : Int) ∧ (i : Int) < s.len := ⟨by omega, by rw [h2]; omega⟩
    refine ⟨.ptr (r, o + (i : Int).toNat * 1), fun k => ?_, fun k => ?_, fun H' t f => ?_⟩
    · show (opP (.idx 1) [.slice s, .int kd i]).bind _ = _
      simp only [opP, if_pos hc, b1, Option.bind_some]
    · show (opR (.load 1 false) [.ptr (r, o + (i : Int).toNat * 1)] H).bind k = _
      simp only [opR, Heap.read, b2, beq_ne b3, cond_false, Int.toNat_natCast, Nat.mul_one, cut_one (b4 i x hx), shaped, Option.bind_some]
    · have e : H'.ver r = H.ver r := by unfold Heap.ver; rw [f.rows r (Heap.get_lt b2)]
      show (bif sameRow (.ptr (r, o + (i : Int).toNat * 1)) H H' then t else none) = t
      simp only [sameRow, rowOf, e, verEq_same, cond_true]
theorem Holds.same {H H' : Heap} {p x : SV} (h : Holds H p x) (f : Frame H H') (t : Rs) : slow.same p H H' t = t := by
  obtain ⟨r, row, rfl, h2, h3, h4⟩ := h
  have e : H'.ver r = H.ver r := by unfold Heap.ver; rw [f.rows r (Heap.get_lt h2)]
  show (bif sameRow (.ptr (r, 0)) H H' then t else none) = t
  simp only [sameRow, rowOf, e, verEq_same, cond_true]
/-! ### A box of a whole number -/
def ZBox (q : Nat) (H : Heap) (z : Int) : Prop := ∃ ver b s, H.get q = some ⟨2, 1, ver, [.bool b, .slice s]⟩ ∧ IsInt H (.agg [.bool b, .slice s]) z
theorem ZBox.fr {q : Nat} {H H' : Heap} {z : Int} (h : ZBox q H z) (f : Frame H H') : ZBox q H' z := by
  obtain ⟨ver, b, s, h1, h2⟩ := h
  exact ⟨ver, b, s, (f.rows q (Heap.get_lt h1)).trans h1, h2.fr f⟩
theorem ZBox.load {q : Nat} {H : Heap} {z : Int} (h : ZBox q H z) : ∃ x y, (∀ k, slow.load 2 true (.ptr (q, 0)) H k = k (.agg [x, y])) ∧ IsInt H (.agg [x, y]) z := by
  obtain ⟨ver, b, s, h1, h2⟩ := h
  refine ⟨_, _, fun k => ?_, h2⟩
  show (opR (.load 2 true) [.ptr (q, 0)] H).bind k = _
  have hb : Nat.beq 2 0 = false := rfl
  have hc : cut [SV.bool b, SV.slice s] 0 2 = some [SV.bool b, SV.slice s] := rfl
  simp only [opR, Heap.read, h1, hb, cond_false, hc, shaped, Option.bind_some]
theorem ZBox.store {q : Nat} {H : Heap} {z z' : Int} (h : ZBox q H z) {x y : SV} (hn : IsInt H (.agg [x, y]) z') : ∃ H', (∀ k, slow.store 2 (.ptr (q, 0)) (.agg [x, y]) H k = k H') ∧ ZBox q H' z' ∧ H'.size = H.size ∧ ∀ r, r ≠ q → H'.get r = H.get r := by
  obtain ⟨ver, b, s, h1, h2⟩ := h
  obtain ⟨b', s', e⟩ := hn.cell
  cases e
  have hro : ∀ r, r ≠ q → (H.set q ⟨2, 1, ver + 1, [.bool b', .slice s']⟩).get r = H.get r := fun r hr => Heap.get_set_ne _ (Ne.symm hr) _
  refine ⟨H.set q ⟨2, 1, ver + 1, [.bool b', .slice s']⟩, fun k => ?_, ⟨ver + 1, b', s', Heap.get_set_self h1 _, hn.keep (X := fun r => r = q) (fun r row e hg c hc kd n => ?_) fun r hr _ => hro r hr⟩, rfl, hro⟩
  · show (opE (.store 2) [.ptr (q, 0), .agg [.bool b', .slice s']] H).bind _ = _
    have hb1 : Nat.beq ([SV.bool b', SV.slice s'] : List SV).length 2 = true := rfl
    have hb2 : Nat.beq 2 2 = true := rfl
    have hb3 : (([SV.bool b', SV.slice s'] : List SV).all SV.flat) = true := rfl
    have hsp : splice [SV.bool b, SV.slice s] 0 [SV.bool b', SV.slice s'] = some [SV.bool b', SV.slice s'] := rfl
    simp only [opE, SV.item, SV.cells, hb3, hb1, Bool.true_and, Bool.and_true, cond_true, Heap.write, h1, hb2, hsp, Option.map_some, Option.bind_some]
  · subst e
    rw [h1] at hg
    cases hg
    rcases List.mem_cons.1 hc with rfl | hc
    · intro e; cases e
    · rw [List.mem_singleton.1 hc]
      intro e; cases e
theorem ZBox.new (H : Heap) : ∃ H' H'', (∀ k, slow.alloc [.bool false, .slice nilSl] H k = k (.ptr (H.size, 0)) H') ∧ (∀ k, slow.store 2 (.ptr (H.size, 0)) (.agg [.bool false, .slice nilSl]) H' k = k H'') ∧ Frame H H'' ∧ ZBox H.size H'' 0 := by
  have h1 : (H.push (newRow 1 [.bool false, .slice nilSl])).get H.size = some ⟨2, 1, 0, [.bool false, .slice nilSl]⟩ := Heap.get_push_self _ _
  have hz : ZBox H.size (H.push (newRow 1 [.bool false, .slice nilSl])) 0 := ⟨0, false, nilSl, h1, IsInt.zero _⟩
  have hs : (H.push (newRow 1 [.bool false, .slice nilSl])).size = H.size + 1 := by simp [Heap.size_push]
  obtain ⟨H2, s1, z2, e2, r2⟩ := hz.store (IsInt.zero _)
  exact ⟨_, H2, fun k => rfl, s1, ⟨by omega, fun r hr => by rw [r2 r (by omega), Heap.get_push_ne _ _ (by omega)]⟩, z2⟩
/-! ### dot -/
def vecF (x : List Int) : Nat → Int := fun i => (x[i]?).getD 0
theorem vecF_get {x : List Int} {i : Nat} {z : Int} (h : x[i]? = some z) : vecF x i = z := by unfold vecF; rw [h]; rfl
def dotS (n : Nat) (A : Mx) (X Y : Nat → Int) (i j : Nat) : Int := sumZ i (fun a => sumZ n fun b => X a * (A a b * Y b)) + sumZ j fun b => X i * (A i b * Y b)
def bilL (A : List (List Int)) (x y : List Int) : Int := bil A.length (ent A) (vecF x) (vecF y)
theorem prod_abs {a b c : Int} {p q r : Nat} (ha : a.natAbs ≤ p) (hb : b.natAbs ≤ q) (hc : c.natAbs ≤ r) : (a * (b * c)).natAbs ≤ p * (q * r) := by
  rw [Int.natAbs_mul, Int.natAbs_mul]
  exact Nat.mul_le_mul ha (Nat.mul_le_mul hb hc)
theorem dotS_abs {n : Nat} {A : Mx} {X Y : Nat → Int} {p q r : Nat} (hX : ∀ i, i < n → (X i).natAbs ≤ p) (hA : ∀ i j, i < n → j < n → (A i j).natAbs ≤ q) (hY : ∀ i, i < n → (Y i).natAbs ≤ r) {i j : Nat} (hi : i ≤ n) (hj : j ≤ n) (hij : i < n ∨ j = 0) : (dotS n A X Y i j).natAbs ≤ i * (n * (p * (q * r))) + j * (p * (q * r)) := by
  unfold dotS
  refine Nat.le_trans (Int.natAbs_add_le _ _) (Nat.add_le_add ?_ ?_)
  · exact natAbs_sum fun a ha => natAbs_sum fun b hb => prod_abs (hX a (by omega)) (hA a b (by omega) hb) (hY b hb)
  · exact natAbs_sum fun b hb => prod_abs (hX i (by omega)) (hA i b (by omega) (by omega)) (hY b (by omega))
theorem dotS_end (n : Nat) (A : Mx) (X Y : Nat → Int) : dotS n A X Y n 0 = bil n A X Y := by
  unfold dotS bil
  show _ + (0 : Int) = _
  rw [Int.add_zero]
theorem dotS_row (n : Nat) (A : Mx) (X Y : Nat → Int) (i : Nat) : dotS n A X Y i n = dotS n A X Y (i + 1) 0 := by
  unfold dotS
  show _ = (sumZ i (fun a => sumZ n fun b => X a * (A a b * Y b)) + sumZ n fun b => X i * (A i b * Y b)) + (0 : Int)
  rw [Int.add_zero]
theorem dotS_step (n : Nat) (A : Mx) (X Y : Nat → Int) (i j : Nat) : dotS n A X Y i (j + 1) = dotS n A X Y i j + X i * Y j * A i j := by
  unfold dotS
  rw [sumZ, Int.mul_comm (A i j), ← Int.mul_assoc, Int.add_assoc]
theorem i64_abs {z : Int} (h : I64 z) : z.natAbs ≤ 9223372036854775808 := by
  unfold I64 at h
  omega
theorem small_pow {m : Nat} (h : m ≤ 2 ^ 200) : m < 2 ^ 4096 := Nat.lt_of_le_of_lt h (Nat.lt_of_lt_of_le (Nat.pow_lt_pow_right (show 1 < 2 by decide) (Nat.lt_succ_self 200)) (pow_mono2 201 4096 (by omega)))
theorem dot_bound {n i j : Nat} (h : n ≤ 8) (hi : i ≤ n) (hj : j ≤ n) : i * (n * (9223372036854775808 * (16384 * 9223372036854775808))) + j * (9223372036854775808 * (16384 * 9223372036854775808)) ≤ 2 ^ 200 := by
  have h1 : i * (n * (9223372036854775808 * (16384 * 9223372036854775808))) ≤ 8 * (8 * (9223372036854775808 * (16384 * 9223372036854775808))) := Nat.mul_le_mul (by omega) (Nat.mul_le_mul h (Nat.le_refl _))
  have h2 : j * (9223372036854775808 * (16384 * 9223372036854775808)) ≤ 8 * (9223372036854775808 * (16384 * 9223372036854775808)) := Nat.mul_le_mul (by omega) (Nat.le_refl _)
  exact Nat.le_trans (Nat.add_le_add h1 h2) (by decide)
theorem dot1_run (K d : Nat) (H : Heap) (a b c p q r : SV) : runQ wk tab slow K (d + 8) 86 [a, b, c, p, q, r] H = f86 slow K (runQ wk tab slow K (d + 7)) a b c p q r H := Eq.trans rfl rfl
theorem dot_run (K d : Nat) (H : Heap) (a x y : SV) : runQ wk tab slow K (d + 10) 53 [a, x, y] H = f53 slow K (runQ wk tab slow K (d + 9)) a x y H := Eq.trans rfl rfl
def gprE (A : List (List Int)) (x y : List Int) : Int := if x.length ≠ A.length then 5 else if y.length ≠ A.length then 5 else if fits64 (bilL A x y) then 0 else 3
def gprN (A : List (List Int)) (x y : List Int) : Int := if gprE A x y = 0 then bilL A x y else 0
theorem dot_ok (K : Nat) (hK : 1000000 < K) (d : Nat) (H : Heap) {v u w : SV} {A : List (List Int)} {x y : List Int} (hv : IsInts2 H v A) (hs : Sq A) (hu : Arr H u (intsL .i64 x)) (hw : Arr H w (intsL .i64 y)) (sx : ∀ z ∈ x, I64 z) (sy : ∀ z ∈ y, I64 z) :
    ∃ H', runQ wk tab slow K (d + 10) 53 [v, u, w] H = some (.tuple [.int .i64 (gprN A x y), .int .i64 (gprE A x y)], H') ∧ Frame H H' := by
  have h8 := hs.n8
  rw [dot_run]
  obtain ⟨px, H1, b1, f1, hpx, gpx⟩ := z_boxH hu.flat H
  obtain ⟨py, H2, b2, f2, hpy, gpy⟩ := z_boxH hw.flat H1
  have f12 := Frame.trans f1 f2
  have hpx2 := hpx.fr f2
  have hu2 := hu.fr f12
  have hw2 := hw.fr f12
  have hv2 : IsInts2 H2 v A := IsRowsC.fr hv f12
  have lx : ∀ k, slow.len u k = k (i64 x.length) := fun k => by rw [hu2.len]; simp [intsL]
  have ly : ∀ k, slow.len w k = k (i64 y.length) := fun k => by rw [hw2.len]; simp [intsL]
  simp only [f53, b1, b2, hpx2.load, lx, ints_len hv2, n_neq, z_guard]
  by_cases e1 : x.length = A.length
  · have n1 : ¬ x.length ≠ A.length := fun h => h e1
    rw [decide_eq_false n1, cond_false]
    simp only [hpy.load, ly, n_neq]
    by_cases e2 : y.length = A.length
    · have n2 : ¬ y.length ≠ A.length := fun h => h e2
      rw [decide_eq_false n2]
      obtain ⟨H3, H4, a3, s3, f3, z3⟩ := ZBox.new H2
      obtain ⟨ws, hW⟩ := IntsW.of hv2
      have hX : ∀ i, i < A.length → (vecF x i).natAbs ≤ 9223372036854775808 := fun i hi => by
        obtain ⟨z, hz⟩ : ∃ z, x[i]? = some z := ⟨_, List.getElem?_eq_getElem (by omega)⟩
        rw [vecF_get hz]
        exact i64_abs (sx z (List.mem_of_getElem? hz))
      have hY : ∀ i, i < A.length → (vecF y i).natAbs ≤ 9223372036854775808 := fun i hi => by
        obtain ⟨z, hz⟩ : ∃ z, y[i]? = some z := ⟨_, List.getElem?_eq_getElem (by omega)⟩
        rw [vecF_get hz]
        exact i64_abs (sy z (List.mem_of_getElem? hz))
      have hA : ∀ i j, i < A.length → j < A.length → (ent A i j).natAbs ≤ 16384 := fun i j hi hj => by
        obtain ⟨_, _, _, h⟩ := hs.at hi hj
        omega
      have hbig : ∀ i j, i ≤ A.length → j ≤ A.length → (i < A.length ∨ j = 0) → (dotS A.length (ent A) (vecF x) (vecF y) i j).natAbs < 2 ^ 4096 := fun i j hi hj hij =>
        small_pow (Nat.le_trans (dotS_abs hX hA hY hi hj hij) (dot_bound h8 hi hj))
      have look : LookOk (runQ wk tab slow K (d + 8)) 86 [] [px, py, .ptr (H2.size, 0)] A (fun _ _ => true) (fun i j H => Frame H2 H ∧ ZBox H2.size H (dotS A.length (ent A) (vecF x) (vecF y) i j)) := fun i j r z H hr hz ⟨hf, hb⟩ => by
        have hi := (List.getElem?_eq_some_iff.1 hr).1
        have hj := (List.getElem?_eq_some_iff.1 hz).1
        rw [hs.sq r (List.mem_of_getElem? hr)] at hj
        have hzz := hs.sm r (List.mem_of_getElem? hr) z (List.mem_of_getElem? hz)
        obtain ⟨xi, hxi⟩ : ∃ z, x[i]? = some z := ⟨_, List.getElem?_eq_getElem (by omega)⟩
        obtain ⟨yj, hyj⟩ : ∃ z, y[j]? = some z := ⟨_, List.getElem?_eq_getElem (by omega)⟩
        have ix := sx xi (List.mem_of_getElem? hxi)
        have iy := sy yj (List.mem_of_getElem? hyj)
        have ax := i64_abs ix
        have ay := i64_abs iy
        have az : z.natAbs ≤ 16384 := by omega
        have l1 : ∀ k, slow.idx 1 u (i64 i) (fun p => slow.load 1 false p H k) = k (.int .i64 xi) := fun k => (hu2.fr hf).load (by simp [intsL, hxi]) .i64 k
        obtain ⟨o1, H5, h5, f5, n5⟩ := zof_ok K (by omega) (d + 4) H ix.1 ix.2
        rw [show d + 4 + 3 = d + 7 from rfl] at h5
        have fH5 := Frame.trans hf f5
        obtain ⟨py', q1, q2, q3⟩ := Arr.loadP (hw2.fr hf) (i := j) (x := .int .i64 yj) (by simp [intsL, hyj]) .i64
        have q2' : ∀ k, slow.load 1 false py' H5 k = k (.int .i64 yj) := fun k => by
          obtain ⟨py2, w1, w2, _⟩ := Arr.loadP (hw2.fr fH5) (i := j) (x := .int .i64 yj) (by simp [intsL, hyj]) .i64
          have : py' = py2 := by
            have a := q1 fun v => some (v, H5)
            have b := w1 fun v => some (v, H5)
            rw [a] at b
            cases b
            rfl
          rw [this]
          exact w2 k
        obtain ⟨o2, H6, h6, f6, n6⟩ := zof_ok K (by omega) (d + 4) H5 iy.1 iy.2
        rw [show d + 4 + 3 = d + 7 from rfl] at h6
        have bxy : (xi * yj).natAbs ≤ 2 ^ 200 := by
          rw [Int.natAbs_mul]
          exact Nat.le_trans (Nat.mul_le_mul ax ay) (by decide)
        have bxyz : (xi * yj * z).natAbs ≤ 2 ^ 200 := by
          rw [Int.natAbs_mul, Int.natAbs_mul]
          exact Nat.le_trans (Nat.mul_le_mul (Nat.mul_le_mul ax ay) az) (by decide)
        have bx : xi.natAbs < 2 ^ 4096 := small_pow (Nat.le_trans ax (by decide))
        have by' : yj.natAbs < 2 ^ 4096 := small_pow (Nat.le_trans ay (by decide))
        have bz : z.natAbs < 2 ^ 4096 := small_pow (Nat.le_trans az (by decide))
        obtain ⟨p1, H7, h7, f7, n7⟩ := zmul_ok K (by omega) (d + 2) H6 (n5.fr f6) n6 bx by'
        rw [show d + 2 + 5 = d + 7 from rfl] at h7
        rw [fitZ_yes (small_pow bxy)] at n7
        obtain ⟨o3, H8, h8', f8, n8⟩ := zof_ok K (by omega) (d + 4) H7 (z := z) (by omega) (by omega)
        rw [show d + 4 + 3 = d + 7 from rfl] at h8'
        have n7' := n7
        obtain ⟨p1', rfl, _, _⟩ := n7
        obtain ⟨p2, H9, h9, f9, n9⟩ := zmul_ok K (by omega) (d + 2) H8 (n7'.fr f8) n8 (small_pow bxy) bz
        rw [show d + 2 + 5 = d + 7 from rfl] at h9
        rw [fitZ_yes (small_pow bxyz)] at n9
        have f59 := Frame.trans f5 (Frame.trans f6 (Frame.trans f7 (Frame.trans f8 f9)))
        obtain ⟨s1, s2, hl, ns⟩ := (hb.fr f59).load
        have n9' := n9
        obtain ⟨p2', rfl, _, _⟩ := n9
        have hstep : dotS A.length (ent A) (vecF x) (vecF y) i (j + 1) = dotS A.length (ent A) (vecF x) (vecF y) i j + xi * yj * z := by
          rw [dotS_step, vecF_get hxi, vecF_get hyj, ent_of hr hz]
        have hsm := hbig i (j + 1) (by omega) (by omega) (.inl hi)
        rw [hstep] at hsm
        obtain ⟨t, H10, h10, f10, n10⟩ := zadd_ok K (by omega) (d + 2) H9 ns n9' (hbig i j (by omega) (by omega) (.inl hi)) (small_pow bxyz)
        rw [show d + 2 + 5 = d + 7 from rfl] at h10
        rw [fitZ_yes hsm] at n10
        have n10' := n10
        obtain ⟨t', rfl, _, _⟩ := n10
        have f510 := Frame.trans f59 f10
        obtain ⟨H11, st, zb, sz, ro⟩ := ((hb.fr f59).fr f10).store n10'
        have hq : H2.size ≤ H2.size := Nat.le_refl _
        have fE : Frame H2 H11 := ⟨by have := (Frame.trans hf f510).size; omega, fun r hr => by rw [ro r (by omega), (Frame.trans hf f510).rows r hr]⟩
        refine ⟨H11, ?_, fE, by rw [hstep]; exact zb⟩
        show runQ wk tab slow K (d + 8) 86 [i64 i, i64 j, .int .i64 z, px, py, .ptr (H2.size, 0)] H = _
        rw [dot1_run]
        simp only [f86, (hpx2.fr hf).load, l1, h5, z_call, (hpy.fr fH5).load, q1, q2', h6, h7, z_ext0, z_ext1, z_bst2, Holds.same (hpy.fr hf) f5, q3 H5 _ f5, z_lload2, h8', h9, hl, h10, st]
      obtain ⟨H5, i5, j5, h5, ⟨f5, zb5⟩, e5⟩ := each_ok K (d + 8) H4 (I := fun i j H => Frame H2 H ∧ ZBox H2.size H (dotS A.length (ent A) (vecF x) (vecF y) i j)) (fun i j H hI => hW.fr hI.1) look (fun i r H hr hI => by
        have := hs.sq r (List.mem_of_getElem? hr)
        rw [this] at hI
        exact ⟨hI.1, by rw [← dotS_row]; exact hI.2⟩) (by omega) (fun r hr => by have := hs.sq r hr; omega) ⟨f3, by
          have : dotS A.length (ent A) (vecF x) (vecF y) 0 0 = 0 := rfl
          rw [this]
          exact z3⟩
      rw [show d + 8 + 1 = d + 9 from rfl] at h5
      have ht : outB (fun _ _ => true) A 0 = true := outB_iff.2 fun _ _ _ _ _ => rfl
      obtain ⟨rfl, rfl⟩ := e5 ht
      rw [ht] at h5
      rw [dotS_end] at zb5
      obtain ⟨s1, s2, hl, ns⟩ := zb5.load
      have hsm := hbig A.length 0 (Nat.le_refl _) (Nat.zero_le _) (.inr rfl)
      rw [dotS_end] at hsm
      have h6 := zi64_ok K (d + 7) H5 ns hsm
      rw [show d + 7 + 2 = d + 9 from rfl] at h6
      have hall : [px, py, SV.ptr (H2.size, 0)].all SV.good = true := by simp [gpx, gpy]; rfl
      have hz : ∀ k, slow.build [.bool false, .slice nilSl] [] [] k = k (.agg [.bool false, .slice nilSl]) := fun k => z_build0 k _
      have eE : gprE A x y = if fits64 (bilL A x y) then 0 else 3 := by unfold gprE; rw [if_neg n1, if_neg n2]
      refine ⟨H5, ?_, Frame.trans f12 f5⟩
      simp only [f53_j1, z_cond, cond_false, hz, a3, s3, z_mkfn hall, h5, z_call, hl, h6]
      have eb : bil A.length (ent A) (vecF x) (vecF y) = bilL A x y := rfl
      rw [eb]
      cases hfit : fits64 (bilL A x y) with
      | true =>
        have e0 : gprE A x y = 0 := by rw [eE, hfit]; rfl
        have eN : gprN A x y = bilL A x y := by unfold gprN; rw [if_pos e0]
        rw [e0, eN]
        simp only [if_true, z_ext0, z_ext1, z_not, Bool.not_true, z_cond, cond_false, z_rest_int]
      | false =>
        have e0 : gprE A x y = 3 := by rw [eE, hfit]; rfl
        have eN : gprN A x y = 0 := by unfold gprN; rw [if_neg (by rw [e0]; decide)]
        rw [e0, eN]
        simp only [Bool.false_eq_true, if_false, z_ext0, z_ext1, z_not, Bool.not_false, z_cond, cond_true]
    · rw [decide_eq_true (show y.length ≠ A.length from e2)]
      have e0 : gprE A x y = 5 := by unfold gprE; rw [if_neg n1, if_pos e2]
      have eN : gprN A x y = 0 := by unfold gprN; rw [if_neg (by rw [e0]; decide)]
      rw [e0, eN]
      exact ⟨H2, rfl, f12⟩
  · rw [decide_eq_true (show x.length ≠ A.length from e1), cond_true]
    have e0 : gprE A x y = 5 := by unfold gprE; rw [if_pos e1]
    have eN : gprN A x y = 0 := by unfold gprN; rw [if_neg (by rw [e0]; decide)]
    rw [e0, eN]
    exact ⟨H2, rfl, f12⟩
def gdotE (A : List (List Int)) (x y : List Int) : Int := if chkE A = 0 then gprE A x y else chkE A
def gdotN (A : List (List Int)) (x y : List Int) : Int := if chkE A = 0 then gprN A x y else 0
theorem gdot_run (K d : Nat) (H : Heap) (a x y : SV) : runQ wk tab slow K (d + 11) 16 [a, x, y] H = f16 slow K (runQ wk tab slow K (d + 10)) a x y H := Eq.trans rfl rfl
theorem gdot_ok (K : Nat) (hK : 1000000 < K) (d : Nat) (H : Heap) {v u w : SV} {A : List (List Int)} {x y : List Int} (hv : IsInts2 H v A) (hu : Arr H u (intsL .i64 x)) (hw : Arr H w (intsL .i64 y)) (sx : ∀ z ∈ x, I64 z) (sy : ∀ z ∈ y, I64 z) :
    ∃ H', runQ wk tab slow K (d + 11) 16 [v, u, w] H = some (.tuple [.int .i64 (gdotN A x y), .int .i64 (gdotE A x y)], H') ∧ Frame H H' := by
  rw [gdot_run]
  obtain ⟨H1, h1, f1⟩ := chk_ok K (by omega) (d + 1) H hv
  rw [show d + 1 + 9 = d + 10 from rfl] at h1
  unfold gdotE gdotN
  by_cases e : chkE A = 0
  · have b : (chkE A != 0) = false := by simp [e]
    obtain ⟨H2, h2, f2⟩ := dot_ok K hK d H1 (IsRowsC.fr hv f1) (chk_form.1 e).sq (hu.fr f1) (hw.fr f1) sx sy
    refine ⟨H2, ?_, Frame.trans f1 f2⟩
    rw [if_pos e, if_pos e]
    simp only [f16, h1, z_call, z_neq, b, z_cond, cond_false, h2, z_ext0, z_ext1, z_rest_int]
  · have b : (chkE A != 0) = true := by simp [e]
    refine ⟨H1, ?_, f1⟩
    rw [if_neg e, if_neg e]
    simp only [f16, h1, z_call, z_neq, b, z_cond, cond_true, z_rest_int]
theorem gnorm_run (K d : Nat) (H : Heap) (a x : SV) : runQ wk tab slow K (d + 12) 15 [a, x] H = f15 slow K (runQ wk tab slow K (d + 11)) a x H := Eq.trans rfl rfl
theorem gnorm_ok (K : Nat) (hK : 1000000 < K) (d : Nat) (H : Heap) {v u : SV} {A : List (List Int)} {x : List Int} (hv : IsInts2 H v A) (hu : Arr H u (intsL .i64 x)) (sx : ∀ z ∈ x, I64 z) :
    ∃ H', runQ wk tab slow K (d + 12) 15 [v, u] H = some (.tuple [.int .i64 (gdotN A x x), .int .i64 (gdotE A x x)], H') ∧ Frame H H' := by
  rw [gnorm_run]
  obtain ⟨H1, h1, f1⟩ := gdot_ok K hK d H hv hu hu sx sx
  refine ⟨H1, ?_, f1⟩
  simp only [f15, h1, z_call, z_ext0, z_ext1, z_rest_int]
end Go.Sh.Of

