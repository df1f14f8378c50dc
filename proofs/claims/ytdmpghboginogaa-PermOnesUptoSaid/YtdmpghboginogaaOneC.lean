/- PermOnes: what is computed. -/
import Derived.Test.YtdmpghboginogaaOneB
set_option linter.unusedVariables false
set_option linter.unusedSimpArgs false
namespace Go.Sh.Of
open Go

theorem natsL_ints (U : List Nat) : natsL U = intsL .i64 (U.map fun (x : Nat) => (x : Int)) := by simp [natsL, intsL]
theorem IsPts.fr {H H' : Heap} {v : SV} {L : List (List Nat)} (h : IsPts H v L) (f : Frame H H') : IsPts H' v L := by
  obtain ⟨ws, h1, h2, h3⟩ := h
  exact ⟨ws, h1.fr f, h2, fun q w l hw hl => (h3 q w l hw hl).fr f⟩
theorem sameall_loop (K : Nat) (hK : 100000 < K) (d : Nat) (H : Heap) {v w : SV} {L : List (List Nat)} (hv : IsPts H v L) (hw : IsPts H w L) (hl : L.length ≤ 1000) (hll : ∀ l ∈ L, l.length ≤ 1000) : ∀ (m i fuel : Nat), i + m = L.length → m < fuel → slow.loop3 (f23_l2 slow K (runQ wk tab slow K (d + 1))) fuel v w (i64 i) H = some (.bool true, H)
  | 0, i, fuel, him, hf => by
    obtain ⟨fuel, rfl⟩ : ∃ m, fuel = m + 1 := ⟨fuel - 1, by omega⟩
    obtain ⟨vs, v1, v2, v3⟩ := hv
    have hi : ¬ i < L.length := by omega
    have hvl : ∀ k, slow.len v k = k (i64 L.length) := fun k => by rw [v1.len, v2]
    rw [z_loop3]
    simp only [f23_l2, hvl, n_lss, decide_eq_false hi, z_cond, cond_false]
  | m + 1, i, fuel, him, hf => by
    obtain ⟨fuel, rfl⟩ : ∃ m, fuel = m + 1 := ⟨fuel - 1, by omega⟩
    have hv' := hv
    have hw' := hw
    obtain ⟨vs, v1, v2, v3⟩ := hv'
    obtain ⟨ws, w1, w2, w3⟩ := hw'
    have hi : i < L.length := by omega
    obtain ⟨l, hL⟩ : ∃ l, L[i]? = some l := ⟨_, List.getElem?_eq_getElem hi⟩
    obtain ⟨a, ha⟩ : ∃ a, vs[i]? = some a := ⟨_, List.getElem?_eq_getElem (by omega)⟩
    obtain ⟨b, hb⟩ : ∃ b, ws[i]? = some b := ⟨_, List.getElem?_eq_getElem (by omega)⟩
    have hvl : ∀ k, slow.len v k = k (i64 L.length) := fun k => by rw [v1.len, v2]
    have a1 := v3 i a l ha hL
    have b1 := w3 i b l hb hL
    rw [natsL_ints] at a1 b1
    have hlen := hll l (List.mem_of_getElem? hL)
    have hs := same_ok K d H a1 b1 (by simp; omega) (by simp; omega)
    rw [decide_eq_true rfl] at hs
    rw [z_loop3]
    simp only [f23_l2, hvl, n_lss, decide_eq_true hi, z_cond, cond_true, v1.load ha, w1.load hb, hs, z_call, z_not, Bool.not_true, cond_false]
    rw [show (SV.int .i64 1) = i64 1 from rfl, n_addi _ (by omega)]
    exact sameall_loop K hK d H hv hw hl hll m (i + 1) fuel (by omega) (by omega)
theorem sameall_ok (K : Nat) (hK : 100000 < K) (d : Nat) (H : Heap) {v w : SV} {L : List (List Nat)} (hv : IsPts H v L) (hw : IsPts H w L) (hl : L.length ≤ 1000) (hll : ∀ l ∈ L, l.length ≤ 1000) : runQ wk tab slow K (d + 2) 23 [v, w] H = some (.bool true, H) := by
  have hv' := hv
  have hw' := hw
  obtain ⟨vs, v1, v2, v3⟩ := hv'
  obtain ⟨ws, w1, w2, w3⟩ := hw'
  show f23 slow K (runQ wk tab slow K (d + 1)) v w H = _
  have hvl : ∀ k, slow.len v k = k (i64 L.length) := fun k => by rw [v1.len, v2]
  have hwl : ∀ k, slow.len w k = k (i64 L.length) := fun k => by rw [w1.len, w2]
  have hd : decide (L.length ≠ L.length) = false := decide_eq_false fun h => h rfl
  simp only [f23, hvl, hwl, n_neq, hd, z_cond, cond_false]
  rw [show (SV.int .i64 0) = i64 0 from rfl]
  exact sameall_loop K hK d H hv hw hl hll L.length 0 K (by omega) (by omega)
/-! ### Slices that are cut -/
theorem z_lay0 {H : Heap} {lo : Nat} (hl : lo ≤ H.size) : ∃ v H', (∀ k, slow.hbuild 1 [] [] [] H k = k v H') ∧ Own lo H' v [] ∧ Frame H H' :=
  ⟨.slice ⟨some (H.size, 0), 0, none, 0⟩, H.push (newRow 1 []), fun k => rfl, ⟨some (H.size, 0), rfl, .inr ⟨H.size, 0, rfl, hl, Heap.get_push_self _ _⟩⟩, Fr.push (Nat.le_refl _) _⟩
theorem slice_own {lo : Nat} {H : Heap} {v : SV} {cs : List SV} (h : Own lo H v cs) (hne : cs ≠ []) : ∃ r, lo ≤ r ∧ r < H.size ∧ v = .slice ⟨some (r, 0), cs.length, none, 0⟩ ∧ ∀ H', H'.get r = H.get r → (∀ n, n ≤ cs.length → Arr H' (.slice ⟨some (r, 0), n, none, 0⟩) (cs.take n)) ∧ ∀ n m (kb : IntKind) k, m ≤ cs.length → slow.slice010 1 (.slice ⟨some (r, 0), n, none, 0⟩) (.int kb (m : Nat)) H' k = k (.slice ⟨some (r, 0), m, none, 0⟩) := by
  obtain ⟨base, rfl, h⟩ := h
  rcases h with ⟨_, h⟩ | ⟨r, ver, rfl, h1, h2⟩
  · exact absurd h hne
  · refine ⟨r, h1, Heap.get_lt h2, rfl, fun H' hg => ?_⟩
    rw [h2] at hg
    refine ⟨fun n hn => ⟨_, rfl, by simp; omega, .inr ⟨r, 0, _, rfl, hg, by simp, fun i x hx => ?_⟩⟩, fun n m kb k hm => ?_⟩
    · rw [List.getElem?_take] at hx
      split at hx
      · simpa using hx
      · cases hx
    · have hcap : capOf H' 1 ⟨some (r, 0), n, none, 0⟩ = some cs.length := by
        unfold capOf
        simp only [hg]
        have e1 : Nat.beq 2 0 = false := rfl
        have e2 : Nat.beq 1 1 = true := rfl
        simp [e1, e2]
      have hfit : fitsCap H' 1 ⟨some (r, 0), n, none, 0⟩ (m : Int) = true := by
        unfold fitsCap
        rw [hcap]
        simp
        omega
      have hesz : eszOk H' 1 ⟨some (r, 0), n, none, 0⟩ 0 = true := rfl
      show (opR (.slice 1 false true false) [.slice _, .int kb m] H').bind k = _
      simp only [opR, sliceOp, loOf]
      rw [if_pos ⟨by omega, by omega, hfit, hesz⟩]
      simp [subSl]
/-! ### What is told is the caller's: it is written over -/
def OwnN (lo : Nat) (H : Heap) (v : SV) (n : Nat) : Prop := ∃ cs, Own lo H v cs ∧ cs.length = n
theorem OwnN.len {lo : Nat} {H : Heap} {v : SV} {n : Nat} (h : OwnN lo H v n) (k : K1) : slow.len v k = k (i64 n) := by
  obtain ⟨cs, o, e⟩ := h
  rw [o.arr.len, e]
theorem over_one {lo : Nat} {H : Heap} {v : SV} {n b : Nat} (h : OwnN lo H v n) (hb : b < n) : ∃ H', (∀ k, slow.idx 1 v (i64 b) (fun p => slow.store 1 p (.int .i64 99) H k) = k H') ∧ OwnN lo H' v n ∧ H'.size = H.size ∧ (∀ r, ¬ inRow v r → H'.get r = H.get r) ∧ ∀ w m lo', OwnN lo' H w m → OwnN lo' H' w m := by
  obtain ⟨cs, o, e⟩ := h
  obtain ⟨H', st, o1, g1, sz, hr⟩ := o.store (i := b) (by omega) (x := .int .i64 99) rfl .i64
  refine ⟨H', st, ⟨_, o1, by rw [List.length_set, e]⟩, sz, hr, fun w m lo' hw => ?_⟩
  obtain ⟨ds, p, e2⟩ := hw
  by_cases hs : ∃ r, inRow w r ∧ inRow v r
  · obtain ⟨r, h1, h2⟩ := hs
    obtain ⟨l1, _, v1, q1⟩ := own_lt p h1
    obtain ⟨_, _, v2, q2⟩ := own_lt o1 h2
    obtain ⟨_, _, v3, q3⟩ := own_lt o h2
    obtain ⟨base, ew, hw⟩ := p
    obtain ⟨s, of, ew2, hb2⟩ := h1
    rw [ew] at ew2
    cases ew2
    rcases hw with ⟨hn, _⟩ | ⟨r', ver, hb3, _, hg⟩
    · rw [hn] at hb2; cases hb2
    · have hb2' : base = some (r, of) := hb2
      rw [hb3] at hb2'
      cases hb2'
      rw [q3] at hg
      cases hg
      refine ⟨cs.set b (.int .i64 99), ⟨some (r, 0), ?_, .inr ⟨r, v2, rfl, l1, q2⟩⟩, by rw [List.length_set, e2]⟩
      rw [ew, hb3, List.length_set]
  · exact ⟨ds, Own.ofr p fun r hr' => hr r fun h => hs ⟨r, hr', h⟩, e2⟩
theorem over_inv (K : Nat) (C : CallC) {p q c d2 w : SV} {B : Bool} {lo n : Nat} : ∀ (m a fuel : Nat) (H : Heap), a + m = n → m < fuel → n ≤ 64 → OwnN lo H w n →
    ∃ H', slow.loop7 (f5_l2 slow K C) fuel p q w c d2 (.bool B) (i64 a) H = slow.loop6 (f5_l6 slow K C) K p q c d2 (.bool B) (i64 0) H' ∧ H'.size = H.size ∧ ∀ r, ¬ inRow w r → H'.get r = H.get r
  | 0, a, fuel, H, ha, hf, hn, ho => by
    obtain ⟨fuel, rfl⟩ : ∃ m, fuel = m + 1 := ⟨fuel - 1, by omega⟩
    have hlt : ¬ a < n := by omega
    refine ⟨H, ?_, rfl, fun _ _ => rfl⟩
    rw [z_loop7]
    simp only [f5_l2, ho.len, n_lss, decide_eq_false hlt, z_cond, cond_false]
    rfl
  | m + 1, a, fuel, H, ha, hf, hn, ho => by
    obtain ⟨fuel, rfl⟩ : ∃ m, fuel = m + 1 := ⟨fuel - 1, by omega⟩
    have hlt : a < n := by omega
    obtain ⟨H1, st, o1, s1, r1, _⟩ := over_one ho hlt
    obtain ⟨H2, h2, s2, r2⟩ := over_inv K C m (a + 1) fuel H1 (by omega) (by omega) hn o1
    refine ⟨H2, ?_, s2.trans s1, fun r hr => (r2 r hr).trans (r1 r hr)⟩
    rw [z_loop7]
    simp only [f5_l2, ho.len, n_lss, decide_eq_true hlt, z_cond, cond_true, st, k_inc (show a < 1000000 by omega)]
    exact h2
structure OverInv (lo hi : Nat) (H : Heap) (c : SV) (ws : List SV) (cs : List (List Nat)) : Prop where
  out : Arr H c ws
  each : ∀ (q : Nat) w l, ws[q]? = some w → cs[q]? = some l → OwnN lo H w l.length
theorem over_in (K : Nat) (C : CallC) {p q c d2 w : SV} {B : Bool} {lo hi a : Nat} {cs : List (List Nat)} {l : List Nat} {ws : List SV} (hkeep : ∀ H H', Arr H c ws → (∀ r, (∀ w ∈ ws, ¬ inRow w r) → H'.get r = H.get r) → Arr H' c ws) (hw : ws[a]? = some w) (hl : cs[a]? = some l) (hl64 : l.length ≤ 64) (ha : a < 64) (k80 : SV → SV → SV → SV → SV → SV → Heap → Rs) : ∀ (m b fuel : Nat) (H : Heap), b + m = l.length → m < fuel → OverInv lo hi H c ws cs →
    ∃ H', slow.loop7 (f5_l8 slow K C k80) fuel p q c d2 (.bool B) (i64 a) (i64 b) H = k80 p q c d2 (.bool B) (i64 (a + 1)) H' ∧ OverInv lo hi H' c ws cs ∧ H'.size = H.size ∧ ∀ r, (∀ w ∈ ws, ¬ inRow w r) → H'.get r = H.get r
  | 0, b, fuel, H, hb, hf, ho => by
    obtain ⟨fuel, rfl⟩ : ∃ m, fuel = m + 1 := ⟨fuel - 1, by omega⟩
    have hlt : ¬ b < l.length := by omega
    refine ⟨H, ?_, ho, rfl, fun _ _ => rfl⟩
    rw [z_loop7]
    simp only [f5_l8, ho.out.load hw, (ho.each a w l hw hl).len, n_lss, decide_eq_false hlt, z_cond, cond_false, k_inc (show a < 1000000 by omega)]
  | m + 1, b, fuel, H, hb, hf, ho => by
    obtain ⟨fuel, rfl⟩ : ∃ m, fuel = m + 1 := ⟨fuel - 1, by omega⟩
    have hlt : b < l.length := by omega
    obtain ⟨H1, st, o1, s1, r1, a1⟩ := over_one (ho.each a w l hw hl) hlt
    have hr : ∀ r, (∀ w ∈ ws, ¬ inRow w r) → H1.get r = H.get r := fun r hr => r1 r (hr w (List.mem_of_getElem? hw))
    obtain ⟨H2, h2, i2, s2, r2⟩ := over_in K C hkeep hw hl hl64 ha k80 m (b + 1) fuel H1 (by omega) (by omega) ⟨hkeep H H1 ho.out hr, fun q w l hw hl => a1 w l.length lo (ho.each q w l hw hl)⟩
    refine ⟨H2, ?_, i2, s2.trans s1, fun r hr' => (r2 r hr').trans (hr r hr')⟩
    rw [z_loop7]
    simp only [f5_l8, ho.out.load hw, (ho.each a w l hw hl).len, n_lss, decide_eq_true hlt, z_cond, cond_true, st, k_inc (show b < 1000000 by omega)]
    exact h2
end Go.Sh.Of
