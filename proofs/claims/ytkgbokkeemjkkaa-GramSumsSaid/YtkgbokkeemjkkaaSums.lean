/- GramSums: contracts of gram.Sum, gram.Scale and of the reference's Sum, Scale; the walk. -/
import Derived.Test.YtkgbokkeemjkkaaRChk
import Derived.Test.YtkgbokkeemjkkaaSqI
set_option linter.unusedVariables false
set_option linter.unusedSimpArgs false
namespace Go.Sh.Of
open Go Go.Sh

def sumX (A B : List (List Int)) : Nat → Nat → Int := fun i j => if i < A.length ∧ j < A.length then ent A i j else if A.length ≤ i ∧ A.length ≤ j then ent B (i - A.length) (j - A.length) else 0
def sumE (A B : List (List Int)) : Int := if chkE A = 0 then (if chkE B = 0 then (if 8 < A.length + B.length then 5 else 0) else chkE B) else chkE A
def sumL (A B : List (List Int)) : List (List Int) := if sumE A B = 0 then sqM (A.length + B.length) (sumX A B) else []
theorem sqM_few {n : Nat} (h : n ≤ 100) (E : Nat → Nat → Int) : FewI (sqM n E) := ⟨by simp [sqM]; omega, fun r hr => by
  obtain ⟨i, _, rfl⟩ := List.mem_map.1 hr
  rw [rowI_len]
  omega⟩
theorem few_nil : FewI [] := ⟨by simp, fun r hr => by cases hr⟩
theorem sq_ld {H : Heap} {v : SV} {A : List (List Int)} (hv : IsInts2 H v A) (hs : Sq A) {i j : Nat} (hi : i < A.length) (hj : j < A.length) : ∃ w, (∀ k, slow.idx 1 v (i64 i) (fun p => slow.load 1 false p H k) = k w) ∧ ∀ k, slow.idx 1 w (i64 j) (fun p => slow.load 1 false p H k) = k (.int .i64 (ent A i j)) := by
  obtain ⟨r, a1, a2, _⟩ := hs.at hi hj
  exact ints_entry hv a1 a2
theorem gsum_run (K d : Nat) (H : Heap) (v w : SV) : runQ wk tab slow K (d + 12) 37 [v, w] H = f37 slow K (runQ wk tab slow K (d + 11)) v w H := Eq.trans rfl rfl
theorem gsum_ok (K : Nat) (hK : 1000000 < K) (d : Nat) (H : Heap) {va vb : SV} {A B : List (List Int)} (ha : IsInts2 H va A) (hb : IsInts2 H vb B) :
    ∃ v H', runQ wk tab slow K (d + 12) 37 [va, vb] H = some (.tuple [v, .int .i64 (sumE A B)], H') ∧ Frame H H' ∧ OwnRR H.size H' v (sumL A B) := by
  rw [gsum_run]
  obtain ⟨pa, H1, b1, f1, hpa, ga⟩ := z_boxH (IsRowsC.flat ha) H
  obtain ⟨pb, H2, b2, f2, hpb, gb⟩ := z_boxH (IsRowsC.flat hb) H1
  have f02 := Frame.trans f1 f2
  have hpa2 := hpa.fr f2
  obtain ⟨H3, h3, f3⟩ := chk_ok K (by omega) (d + 2) H2 (IsRowsC.fr ha f02)
  rw [show d + 2 + 9 = d + 11 from rfl] at h3
  have f03 := Frame.trans f02 f3
  simp only [f37, b1, b2, hpa2.load, h3, z_call, z_neq]
  by_cases e : chkE A = 0
  · have b : (chkE A != 0) = false := by simp [e]
    have hs := (chk_form.1 e).sq
    have h8 := hs.n8
    obtain ⟨H4, h4, f4⟩ := chk_ok K (by omega) (d + 2) H3 (IsRowsC.fr hb f03)
    rw [show d + 2 + 9 = d + 11 from rfl] at h4
    have f04 := Frame.trans f03 f4
    simp only [b, z_cond, cond_false, (hpb.fr f3).load, h4, z_call, z_neq]
    by_cases e2 : chkE B = 0
    · have b2 : (chkE B != 0) = false := by simp [e2]
      have hs2 := (chk_form.1 e2).sq
      have h82 := hs2.n8
      have hn0 := hs.n0
      obtain ⟨H5, H6, a5, s5, f6, bx, z6⟩ := Box.alloc H4 0 (A.length : Int)
      have hpn := bx.holds
      have f06 := Frame.trans f04 f6
      have hpa6 := ((hpa2.fr f3).fr f4).fr f6
      have hpb6 := ((hpb.fr f3).fr f4).fr f6
      simp only [b2, z_cond, cond_false, ((hpa2.fr f3).fr f4).load, ints_len (IsRowsC.fr ha f04), a5, s5, hpn.load, hpb6.load, ints_len (IsRowsC.fr hb f06), n_addi _ (show A.length + B.length < 9223372036854775808 by omega)]
      have g8 : ∀ k, slow.gtr (i64 (A.length + B.length)) (.int .i64 8) k = k (.bool (decide (A.length + B.length > 8))) := fun k => n_gtr k .i64 _ 8
      simp only [g8]
      by_cases e3 : 8 < A.length + B.length
      · rw [decide_eq_true (show A.length + B.length > 8 from e3)]
        have eE : sumE A B = 5 := by unfold sumE; rw [if_pos e, if_pos e2, if_pos e3]
        have eL : sumL A B = [] := by unfold sumL; rw [eE]; rfl
        rw [eE, eL]
        exact ⟨_, H6, rfl, f06, OwnRR.nil _ _⟩
      · rw [decide_eq_false (show ¬ A.length + B.length > 8 from e3)]
        have eE : sumE A B = 0 := by unfold sumE; rw [if_pos e, if_pos e2, if_neg e3]
        have eL : sumL A B = sqM (A.length + B.length) (sumX A B) := by unfold sumL; rw [if_pos eE]
        have hgp : (.ptr (H4.size, 0) : SV).good = true := rfl
        have hall : ([.ptr (H4.size, 0), pa, pb] : List SV).all SV.good = true := by simp [ga, gb, hgp]
        obtain ⟨v, H7, h7, f7, o7⟩ := sqI_ok K (by omega) (d + 10) H6 (g := 76) (b := []) (caps := [.ptr (H4.size, 0), pa, pb]) (n := A.length + B.length) (by omega) (by omega) (E := sumX A B) (fun i j H' hi hj hf => by
          have lA := (hpa6.fr hf).load
          have lB := (hpb6.fr hf).load
          have lN := (hpn.fr hf).load
          have hA' : IsInts2 H' va A := IsRowsC.fr ha (Frame.trans f06 hf)
          have hB' : IsInts2 H' vb B := IsRowsC.fr hb (Frame.trans f06 hf)
          show f76 slow K (runQ wk tab slow K (d + 9)) (i64 i) (i64 j) (.ptr (H4.size, 0)) pa pb H' = _
          unfold sumX
          simp only [f76, lN, n_lss]
          by_cases c1 : i < A.length
          · rw [decide_eq_true c1]
            by_cases c2 : j < A.length
            · obtain ⟨w, l1, l2⟩ := sq_ld hA' hs c1 c2
              rw [decide_eq_true c2, if_pos ⟨c1, c2⟩]
              simp only [z_guard, cond_true, f76_j1, z_cond, lA, l1, l2, z_rest_int]
            · rw [decide_eq_false c2, if_neg fun h => c2 h.2, if_neg fun h => by omega]
              simp only [z_guard, cond_true, f76_j1, z_cond, cond_false, lN, n_geq, decide_eq_false (show ¬ i ≥ A.length by omega), f76_j2]
          · rw [decide_eq_false c1, if_neg fun h => c1 h.1]
            simp only [z_guard, cond_false, f76_j1, z_cond, lN, n_geq, decide_eq_true (show i ≥ A.length by omega), cond_true]
            by_cases c2 : j < A.length
            · rw [decide_eq_false (show ¬ j ≥ A.length by omega), if_neg fun h => by omega]
              simp only [f76_j2, z_cond, cond_false]
            · obtain ⟨w, l1, l2⟩ := sq_ld hB' hs2 (i := i - A.length) (j := j - A.length) (by omega) (by omega)
              rw [decide_eq_true (show j ≥ A.length by omega), if_pos ⟨by omega, by omega⟩]
              simp only [f76_j2, z_cond, cond_true, lB, lN, n_subi _ (show A.length ≤ i by omega) (by omega), n_subi _ (show A.length ≤ j by omega) (by omega), l1, l2, z_rest_int])
        rw [show d + 10 + 1 = d + 11 from rfl] at h7
        refine ⟨v, H7, ?_, Frame.trans f06 f7, by rw [eL]; exact o7.mono f06.size⟩
        rw [eE]
        simp only [z_cond, cond_false, z_mkfn hall, h7, z_call, z_rest o7.good]
    · have b2 : (chkE B != 0) = true := by simp [e2]
      have eE : sumE A B = chkE B := by unfold sumE; rw [if_pos e, if_neg e2]
      have eL : sumL A B = [] := by unfold sumL; rw [if_neg (by rw [eE]; exact e2)]
      rw [b2, eE, eL]
      exact ⟨_, H4, rfl, f04, OwnRR.nil _ _⟩
  · have b : (chkE A != 0) = true := by simp [e]
    have eE : sumE A B = chkE A := by unfold sumE; rw [if_neg e]
    have eL : sumL A B = [] := by unfold sumL; rw [if_neg (by rw [eE]; exact e)]
    rw [b, eE, eL]
    exact ⟨_, H3, rfl, f03, OwnRR.nil _ _⟩
/-! ### Scale -/
def sclX (A : List (List Int)) (c : Int) : Nat → Nat → Int := fun i j => ent A i j * c
def sclE (A : List (List Int)) (c : Int) : Int := if chkE A = 0 then (if c < 1 then 2 else if 16384 < c then 3 else if outB (fun i j => smallB (sclX A c i j)) A 0 then 0 else 3) else chkE A
def sclL (A : List (List Int)) (c : Int) : List (List Int) := if sclE A c = 0 then sqM A.length (sclX A c) else []
theorem scl_i64 {x c : Int} (h : -16384 ≤ x ∧ x ≤ 16384) (h0 : 1 ≤ c) (h1 : c ≤ 16384) : I64 (x * c) := by
  have h2 : (x * c).natAbs ≤ 16384 * 16384 := by
    rw [Int.natAbs_mul]
    exact Nat.mul_le_mul (by omega) (by omega)
  unfold I64
  omega
theorem gscale_run (K d : Nat) (H : Heap) (v c : SV) : runQ wk tab slow K (d + 12) 38 [v, c] H = f38 slow K (runQ wk tab slow K (d + 11)) v c H := Eq.trans rfl rfl
theorem gscale_ok (K : Nat) (hK : 1000000 < K) (d : Nat) (H : Heap) {va : SV} {A : List (List Int)} (ha : IsInts2 H va A) {c : Int} :
    ∃ v H', runQ wk tab slow K (d + 12) 38 [va, .int .i64 c] H = some (.tuple [v, .int .i64 (sclE A c)], H') ∧ Frame H H' ∧ OwnRR H.size H' v (sclL A c) := by
  rw [gscale_run]
  obtain ⟨pa, H1, b1, f1, hpa, ga⟩ := z_boxH (IsRowsC.flat ha) H
  obtain ⟨pc, H2, b2, f2, hpc, gc⟩ := z_boxH (x := .int .i64 c) rfl H1
  have f02 := Frame.trans f1 f2
  have hpa2 := hpa.fr f2
  obtain ⟨H3, h3, f3⟩ := chk_ok K (by omega) (d + 2) H2 (IsRowsC.fr ha f02)
  rw [show d + 2 + 9 = d + 11 from rfl] at h3
  have f03 := Frame.trans f02 f3
  have hpa3 := hpa2.fr f3
  have hpc3 := hpc.fr f3
  simp only [f38, b1, b2, hpa2.load, h3, z_call, z_neq]
  by_cases e : chkE A = 0
  · have b : (chkE A != 0) = false := by simp [e]
    have hs := (chk_form.1 e).sq
    have h8 := hs.n8
    have hn0 := hs.n0
    simp only [b, z_cond, cond_false, hpc3.load, z_lss]
    by_cases c1 : c < 1
    · have eE : sclE A c = 2 := by unfold sclE; rw [if_pos e, if_pos c1]
      have eL : sclL A c = [] := by unfold sclL; rw [eE]; rfl
      rw [decide_eq_true c1, eE, eL]
      exact ⟨_, H3, rfl, f03, OwnRR.nil _ _⟩
    · rw [decide_eq_false c1]
      simp only [cond_false, z_gtr]
      have bad : sclE A c = 3 → ∃ v H', f38_j3 slow K (runQ wk tab slow K (d + 11)) pa pc (.bool true) H3 = some (.tuple [v, .int .i64 (sclE A c)], H') ∧ Frame H H' ∧ OwnRR H.size H' v (sclL A c) := fun eE => by
        have eL : sclL A c = [] := by unfold sclL; rw [eE]; rfl
        rw [eE, eL]
        exact ⟨_, H3, rfl, f03, OwnRR.nil _ _⟩
      by_cases c2 : 16384 < c
      · rw [decide_eq_true (show c > 16384 from c2)]
        exact bad (by unfold sclE; rw [if_pos e, if_neg c1, if_pos c2])
      · rw [decide_eq_false (show ¬ c > 16384 from c2)]
        have hv3 : IsInts2 H3 va A := IsRowsC.fr ha f03
        have e1 : runQ wk tab slow K (d + 11) 42 [va, .fn 77 [] [pc]] H3 = some (.bool (outB (fun i j => smallB (sclX A c i j)) A 0), H3) := each_pure K (d + 10) H3 hv3 (fun i j r z hr hz => by
          show f77 slow K (runQ wk tab slow K (d + 9)) (i64 i) (i64 j) (.int .i64 z) pc H3 = _
          have hez : ent A i j = z := ent_of hr hz
          have hzs := hs.sm r (List.mem_of_getElem? hr) z (List.mem_of_getElem? hz)
          have hsm := small_ok K (d + 8) H3 (z * c)
          unfold sclX
          rw [hez]
          simp only [f77, hpc3.load, z_mul, wrap_i64 (scl_i64 hzs (show 1 ≤ c by omega) (show c ≤ 16384 by omega)).1 (scl_i64 hzs (show 1 ≤ c by omega) (show c ≤ 16384 by omega)).2, hsm, z_call, z_rest_bool]) ⟨by omega, by omega⟩ (fun r hr => by
          have := hs.sq r hr
          exact ⟨by omega, by omega⟩)
        simp only [z_guard, cond_false, hpa3.load, z_mkfn0 _ gc, e1, z_call, z_not]
        cases hq : outB (fun i j => smallB (sclX A c i j)) A 0 with
        | false => exact bad (by unfold sclE; rw [if_pos e, if_neg c1, if_neg c2, hq]; rfl)
        | true =>
          have eE : sclE A c = 0 := by unfold sclE; rw [if_pos e, if_neg c1, if_neg c2, hq]; rfl
          have eL : sclL A c = sqM A.length (sclX A c) := by unfold sclL; rw [if_pos eE]
          have hall : ([pa, pc] : List SV).all SV.good = true := by simp [ga, gc]
          obtain ⟨v, H7, h7, f7, o7⟩ := sqI_ok K (by omega) (d + 10) H3 (g := 78) (b := []) (caps := [pa, pc]) (n := A.length) (by omega) (by omega) (E := sclX A c) (fun i j H' hi hj hf => by
            have lA := (hpa3.fr hf).load
            have lC := (hpc3.fr hf).load
            obtain ⟨w, l1, l2⟩ := sq_ld (IsRowsC.fr hv3 hf) hs hi hj
            obtain ⟨r, a1, a2, a3⟩ := hs.at hi hj
            show f78 slow K (runQ wk tab slow K (d + 9)) (i64 i) (i64 j) pa pc H' = _
            unfold sclX
            simp only [f78, lA, l1, l2, lC, z_mul, wrap_i64 (scl_i64 a3 (show 1 ≤ c by omega) (show c ≤ 16384 by omega)).1 (scl_i64 a3 (show 1 ≤ c by omega) (show c ≤ 16384 by omega)).2, z_rest_int])
          rw [show d + 10 + 1 = d + 11 from rfl] at h7
          refine ⟨v, H7, ?_, Frame.trans f03 f7, by rw [eL]; exact o7.mono f03.size⟩
          rw [eE]
          simp only [f38_j3, z_cond, Bool.not_true, cond_false, hpa3.load, ints_len hv3, z_mkfn hall, h7, z_call, z_rest o7.good]
  · have b : (chkE A != 0) = true := by simp [e]
    have eE : sclE A c = chkE A := by unfold sclE; rw [if_neg e]
    have eL : sclL A c = [] := by unfold sclL; rw [if_neg (by rw [eE]; exact e)]
    rw [b, eE, eL]
    exact ⟨_, H3, rfl, f03, OwnRR.nil _ _⟩
end Go.Sh.Of

