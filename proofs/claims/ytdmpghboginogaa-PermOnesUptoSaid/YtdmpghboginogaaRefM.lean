/- Contracts of the reference's layer 1: numbers by digits to the base 2^16. -/
import Derived.Test.YtdmpghboginogaaTxtA
import Derived.Test.YtdmpghboginogaaSh31
set_option linter.unusedVariables false
set_option linter.unusedSimpArgs false
namespace Go.Sh.Of
open Go

/-! ### Digits -/
def D : Nat := 65536
/-- Digits to the base 2^16, the lowest first. -/
def rdigs (n : Nat) : List Nat := if h : n = 0 then [] else n % D :: rdigs (n / D)
termination_by n
decreasing_by exact Nat.div_lt_self (Nat.pos_of_ne_zero h) (by decide)
def rval : List Nat → Nat
  | [] => 0
  | d :: ds => d + D * rval ds
def RSmall (ds : List Nat) : Prop := ∀ d ∈ ds, d < D
theorem rdigs_zero : rdigs 0 = [] := by rw [rdigs]; rfl
theorem rdigs_pos {n : Nat} (h : n ≠ 0) : rdigs n = n % D :: rdigs (n / D) := by rw [rdigs, dif_neg h]
theorem rval_digs (n : Nat) : rval (rdigs n) = n := by
  induction n using Nat.strongRecOn with
  | ind n ih =>
    by_cases h : n = 0
    · subst h; rw [rdigs_zero]; rfl
    · rw [rdigs_pos h, rval, ih (n / D) (Nat.div_lt_self (Nat.pos_of_ne_zero h) (by decide))]
      exact Nat.mod_add_div n D
theorem rdigs_small (n : Nat) : RSmall (rdigs n) := by
  induction n using Nat.strongRecOn with
  | ind n ih =>
    by_cases h : n = 0
    · subst h; rw [rdigs_zero]; intro d hd; cases hd
    · rw [rdigs_pos h]
      intro d hd
      rcases List.mem_cons.1 hd with rfl | hd
      · exact Nat.mod_lt _ (by decide)
      · exact ih (n / D) (Nat.div_lt_self (Nat.pos_of_ne_zero h) (by decide)) d hd
theorem rval_append (a b : List Nat) : rval (a ++ b) = rval a + D ^ a.length * rval b := by
  induction a with
  | nil => simp [rval]
  | cons d a ih => simp only [List.cons_append, rval, ih, List.length_cons, Nat.pow_succ, Nat.mul_add, Nat.add_assoc]; congr 1; congr 1; rw [Nat.mul_comm (D ^ a.length) D, Nat.mul_assoc]
theorem rval_lt {ds : List Nat} (h : RSmall ds) : rval ds < D ^ ds.length := by
  induction ds with
  | nil => simp [rval]
  | cons d ds ih =>
    have h1 := h d (by simp)
    have h2 := ih fun x hx => h x (by simp [hx])
    simp only [rval, List.length_cons, Nat.pow_succ]
    have : D * rval ds + D ≤ D * D ^ ds.length := by
      rw [← Nat.mul_succ]
      exact Nat.mul_le_mul_left _ h2
    rw [Nat.mul_comm (D ^ ds.length) D]
    omega
theorem rval_zeros (n : Nat) : rval (List.replicate n 0) = 0 := by
  induction n with
  | zero => rfl
  | succ n ih => simp [List.replicate_succ, rval, ih]
/-- Digits whose last is not 0 are those of their number. -/
theorem rdigs_val {ds : List Nat} (h : RSmall ds) (hl : ∀ d, ds.getLast? = some d → d ≠ 0) : rdigs (rval ds) = ds := by
  induction ds with
  | nil => exact rdigs_zero
  | cons d ds ih =>
    have h1 := h d (by simp)
    have h2 : RSmall ds := fun x hx => h x (by simp [hx])
    have hne : rval (d :: ds) ≠ 0 := by
      cases ds with
      | nil =>
        have := hl d rfl
        simp only [rval]; omega
      | cons e es =>
        have hd := ih h2 fun x hx => hl x (by rw [List.getLast?_cons_cons]; exact hx)
        intro e0
        have h0 : rval (e :: es) = 0 := by
          simp only [rval] at e0 ⊢
          have : D * (e + D * rval es) = 0 := by omega
          exact (Nat.mul_eq_zero.1 this).resolve_left (by decide)
        rw [h0, rdigs_zero] at hd
        cases hd
    rw [rdigs_pos hne]
    have e1 : rval (d :: ds) % D = d := by
      simp only [rval]
      rw [Nat.add_mul_mod_self_left]
      exact Nat.mod_eq_of_lt h1
    have e2 : rval (d :: ds) / D = rval ds := by
      simp only [rval]
      rw [Nat.add_mul_div_left _ _ (by decide), Nat.div_eq_of_lt h1, Nat.zero_add]
    rw [e1, e2]
    cases ds with
    | nil => rw [show rval [] = 0 from rfl, rdigs_zero]
    | cons e es => rw [ih h2 fun x hx => hl x (by rw [List.getLast?_cons_cons]; exact hx)]
abbrev rl (ds : List Nat) : List SV := ds.map u32
theorem rdigs_len_le {n k : Nat} (h : n < D ^ k) : (rdigs n).length ≤ k := by
  induction k generalizing n with
  | zero => have : n = 0 := by simpa using h
            subst this; rw [rdigs_zero]; simp
  | succ k ih =>
    by_cases h0 : n = 0
    · subst h0; rw [rdigs_zero]; simp
    · rw [rdigs_pos h0, List.length_cons]
      have : n / D < D ^ k := by rw [Nat.div_lt_iff_lt_mul (by decide), ← Nat.pow_succ]; exact h
      exact Nat.succ_le_succ (ih this)
theorem rdigs_nil {n : Nat} : rdigs n = [] ↔ n = 0 := by
  constructor
  · intro h
    have := rval_digs n
    rw [h] at this
    exact this.symm
  · rintro rfl; exact rdigs_zero
theorem rl_len (ds : List Nat) : (rl ds).length = ds.length := by simp
theorem rl_get {ds : List Nat} {i d : Nat} (h : ds[i]? = some d) : (rl ds)[i]? = some (u32 d) := by simp [h]
theorem rlen {H : Heap} {v : SV} {ds : List Nat} (hv : Arr H v (rl ds)) (k : K1) : slow.len v k = k (i64 ds.length) := by rw [hv.len]; simp
theorem rval_cmp_len {a b : Nat} (h : (rdigs a).length < (rdigs b).length) : a < b := by
  have h1 := rval_lt (rdigs_small a)
  rw [rval_digs] at h1
  have hb0 : b ≠ 0 := fun e => by subst e; rw [rdigs_zero] at h; simp at h
  apply Nat.lt_of_not_le
  intro hle
  have : b < D ^ (rdigs a).length := Nat.lt_of_le_of_lt hle h1
  have := rdigs_len_le this
  omega
theorem rval_set : ∀ {o : List Nat} {i d z : Nat}, o[i]? = some d → rval (o.set i z) + d * D ^ i = rval o + z * D ^ i
  | [], i, d, z, h => by simp at h
  | x :: o, 0, d, z, h => by simp at h; subst h; simp [rval]; omega
  | x :: o, i + 1, d, z, h => by
    simp only [List.getElem?_cons_succ] at h
    have ih := rval_set (z := z) h
    simp only [List.set_cons_succ, rval, Nat.pow_succ]
    have e1 : d * (D ^ i * D) = D * (d * D ^ i) := by rw [← Nat.mul_assoc, Nat.mul_comm]
    have e2 : z * (D ^ i * D) = D * (z * D ^ i) := by rw [← Nat.mul_assoc, Nat.mul_comm]
    rw [e1, e2, Nat.add_assoc, Nat.add_assoc, ← Nat.mul_add, ← Nat.mul_add, ih]
theorem rsmall_set {o : List Nat} (h : RSmall o) {i z : Nat} (hz : z < D) : RSmall (o.set i z) := fun d hd => by
  rcases List.mem_or_eq_of_mem_set hd with hd | rfl
  · exact h d hd
  · exact hz
theorem rsmall_zeros (n : Nat) : RSmall (List.replicate n 0) := fun d hd => by rw [List.eq_of_mem_replicate hd]; decide
theorem rl_zeros (n : Nat) : List.replicate n (SV.int .u32 0) = rl (List.replicate n 0) := by simp [rl]
theorem rl_set (o : List Nat) (i z : Nat) : (rl o).set i (u32 z) = rl (o.set i z) := by simp [rl, List.map_set]


/-- A number, as the reference holds it. -/
abbrev IsR (H : Heap) (v : SV) (n : Nat) : Prop := Arr H v (rl (rdigs n))
theorem IsR.zero {H : Heap} {v : SV} (h : Arr H v []) : IsR H v 0 := by rw [IsR, rdigs_zero]; exact h
theorem Own.ge {lo : Nat} {H : Heap} {v : SV} {cs : List SV} (h : Own lo H v cs) {r : Nat} (hr : inRow v r) : lo ≤ r := by
  obtain ⟨base, rfl, h⟩ := h
  obtain ⟨s, o, e, h4⟩ := hr
  cases e
  rcases h with ⟨rfl, _⟩ | ⟨r', ver, rfl, h2, h3⟩
  · cases h4
  · cases h4; exact h2
/-- xs[:n]. -/
theorem slice010_ok {H : Heap} {v : SV} {cs : List SV} (h : Arr H v cs) {n : Nat} (hn : n ≤ cs.length) (kb : IntKind) :
    ∃ v', (∀ k, slow.slice010 1 v (.int kb n) H k = k v') ∧ Arr H v' (cs.take n) ∧ ∀ r, inRow v' r → inRow v r := by
  obtain ⟨s, rfl, h2, h3⟩ := h
  have hfit : fitsCap H 1 s n = true := by
    unfold fitsCap
    rw [decide_eq_true (by rw [h2]; omega)]
    rfl
  have hesz : eszOk H 1 s 0 = true := rfl
  refine ⟨.slice { s with len := n, cap := s.cap.map (· - 0) }, fun k => ?_, ⟨_, rfl, by simp; omega, ?_⟩, fun r ⟨s', o, e, hb⟩ => by cases e; exact ⟨s, o, rfl, hb⟩⟩
  · show (opR (.slice 1 false true false) [.slice s, .int kb n] H).bind k = _
    simp only [opR, sliceOp, loOf]
    rw [if_pos ⟨by omega, by omega, hfit, hesz⟩]
    simp [subSl]
  · rcases h3 with rfl | ⟨r, o, row, b1, b2, b3, b4⟩
    · left; simp
    · right
      refine ⟨r, o, row, b1, b2, b3, fun i x hx => ?_⟩
      rw [List.getElem?_take] at hx
      split at hx
      · exact b4 i x hx
      · cases hx
theorem rcut_end {H : Heap} {v : SV} {ds : List Nat} (hv : Arr H v (rl ds)) (hs : RSmall ds) {n : Nat} (hn : n ≤ ds.length) (hval : rval (ds.take n) = rval ds) (hlast : ∀ d, (ds.take n).getLast? = some d → d ≠ 0) :
    ∃ sl, (∀ k, slow.slice010 1 v (i64 n) H k = k sl) ∧ IsR H sl (rval ds) ∧ ∀ r, inRow sl r → inRow v r := by
  obtain ⟨sl, h1, h2, hin⟩ := slice010_ok hv (n := n) (by rw [rl_len]; exact hn) .i64
  have e : rdigs (rval ds) = ds.take n := by
    rw [← hval]
    exact rdigs_val (fun d hd => hs d (List.mem_of_mem_take hd)) hlast
  refine ⟨sl, h1, ?_, hin⟩
  rw [IsR, e]
  rw [show rl (ds.take n) = (rl ds).take n from List.map_take]
  exact h2
theorem rcut_loop (C : CallC) (K : Nat) (H : Heap) {v : SV} {ds : List Nat} (hv : Arr H v (rl ds)) (hs : RSmall ds) (hb : ds.length < 1000000000) : ∀ (n fuel : Nat), n ≤ ds.length → n < fuel → rval (ds.take n) = rval ds →
    ∃ sl, slow.loop2 (f42_l1 slow K C) fuel v (i64 n) H = some (sl, H) ∧ IsR H sl (rval ds) ∧ ∀ r, inRow sl r → inRow v r
  | 0, fuel, hn, hf, hval => by
    obtain ⟨fuel, rfl⟩ : ∃ m, fuel = m + 1 := ⟨fuel - 1, by omega⟩
    obtain ⟨sl, h1, h2⟩ := rcut_end hv hs hn hval (fun d hd => by simp at hd)
    refine ⟨sl, ?_, h2⟩
    rw [z_loop2]
    have h00 : ¬ (((0 : Nat) : Int) > 0) := by omega
    simp only [f42_l1, z_gtr, decide_eq_false h00, z_guard, cond_false, f42_j2, z_cond, h1, z_rest h2.1.good]
  | n + 1, fuel, hn, hf, hval => by
    obtain ⟨fuel, rfl⟩ : ∃ m, fuel = m + 1 := ⟨fuel - 1, by omega⟩
    obtain ⟨d, hd⟩ : ∃ d, ds[n]? = some d := ⟨_, List.getElem?_eq_getElem (by omega)⟩
    have hpos : (((n + 1 : Nat) : Int)) > 0 := by omega
    have htk : ds.take (n + 1) = ds.take n ++ [d] := by rw [List.take_add_one, hd]; rfl
    rw [z_loop2]
    simp only [f42_l1, z_gtr, decide_eq_true hpos, z_guard, cond_true]
    rw [z_sub64 (by omega) (by omega)]
    have e : (((n + 1 : Nat) : Int) - 1) = (n : Int) := by omega
    rw [e]
    simp only [hv.load (rl_get hd), z_eql]
    by_cases h0 : d = 0
    · subst h0
      have hb0 : (((0 : Nat) : Int) == 0) = true := rfl
      simp only [hb0, f42_j2, z_cond, cond_true]
      rw [z_sub64 (by omega) (by omega), e]
      exact rcut_loop C K H hv hs hb n fuel (by omega) (by omega) (by rw [← hval, htk, rval_append]; simp [rval])
    · have hb0 : ((d : Int) == 0) = false := by simp [h0]
      obtain ⟨sl, h1, h2⟩ := rcut_end hv hs hn hval (fun d' hd' => by rw [htk] at hd'; simp at hd'; omega)
      refine ⟨sl, ?_, h2⟩
      simp only [hb0, f42_j2, z_cond, cond_false, h1, z_rest h2.1.good]
theorem rcut_ok (K : Nat) (d : Nat) (H : Heap) {v : SV} {ds : List Nat} (hv : Arr H v (rl ds)) (hs : RSmall ds) (hK : ds.length < K) (hb : ds.length < 1000000000) :
    ∃ sl, runQ wk tab slow K (d + 1) 42 [v] H = some (sl, H) ∧ IsR H sl (rval ds) ∧ ∀ r, inRow sl r → inRow v r := by
  show ∃ sl, f42 slow K (runQ wk tab slow K d) v H = _ ∧ _
  simp only [f42, rlen hv]
  exact rcut_loop _ K H hv hs hb ds.length K (Nat.le_refl _) hK (by rw [List.take_length])
/-- Of. -/
theorem rof_loop (C : CallC) (K : Nat) {H0 : Heap} {N : Nat} (hNl : (rdigs N).length ≤ 100) : ∀ (n fuel : Nat) (H : Heap) (o : SV) (pre : List Nat), (rdigs n).length < fuel → n < 18446744073709551616 → Frame H0 H → Own H0.size H o (rl pre) → pre ++ rdigs n = rdigs N →
    ∃ r H', slow.loop2 (f30_l1 slow K C) fuel (u64 n) o H = some (r, H') ∧ Frame H0 H' ∧ IsR H' r N := by
  intro n
  induction n using Nat.strongRecOn with
  | ind n ih =>
    intro fuel H o pre hf hlt hfr ho hpre
    obtain ⟨fuel, rfl⟩ : ∃ m, fuel = m + 1 := ⟨fuel - 1, by omega⟩
    rw [z_loop2]
    by_cases h0 : n = 0
    · subst h0
      rw [rdigs_zero, List.append_nil] at hpre
      have h00 : ¬ (((0 : Nat) : Int) > 0) := by omega
      refine ⟨o, H, ?_, hfr, by rw [IsR, ← hpre]; exact ho.arr⟩
      simp only [f30_l1, z_gtr, decide_eq_false h00, z_cond, cond_false, z_rest ho.arr.good]
    · have hpos : ((n : Nat) : Int) > 0 := by omega
      have hm : n % 65536 % 4294967296 = n % 65536 := by omega
      have hpl : pre.length ≤ 100 := by
        have := congrArg List.length hpre
        rw [List.length_append] at this
        omega
      obtain ⟨o', H1, ha, ho1, f1, _⟩ := push1 ho hfr.size (.int .u32 0) (x := u32 (n % 65536)) rfl (by_ := 4) (roomy_small (by simp; omega))
      have e1 : rl pre ++ [u32 (n % 65536)] = rl (pre ++ [n % 65536]) := by simp [rl]
      rw [e1] at ho1
      rw [rdigs_pos h0] at hpre hf
      obtain ⟨r, H2, h2, f2, hr⟩ := ih (n / 65536) (Nat.div_lt_self (Nat.pos_of_ne_zero h0) (by decide)) fuel H1 o' (pre ++ [n % 65536]) (by
        have : (rdigs (n / D)).length + 1 < fuel + 1 := hf
        show (rdigs (n / D)).length < fuel
        omega) (by omega) (Fr.trans hfr f1) ho1 (by rw [← hpre]; simp [D])
      refine ⟨r, H2, ?_, f2, hr⟩
      simp only [f30_l1, z_gtr, decide_eq_true hpos, z_cond, cond_true]
      rw [show (SV.int .u64 65536) = u64 65536 from rfl, n_rem _ .u64 n (by decide), n_conv32, hm, ha, n_quo64 _ n (by decide) hlt]
      exact h2
theorem rdigs_len64 {n : Nat} (hn : n < 18446744073709551616) : (rdigs n).length ≤ 4 := rdigs_len_le (k := 4) (by show n < 65536 ^ 4; omega)
theorem rof_ok (K : Nat) (hK : 1000 < K) (d : Nat) (H : Heap) {n : Nat} (hn : n < 18446744073709551616) :
    ∃ r H', runQ wk tab slow K (d + 1) 30 [u64 n] H = some (r, H') ∧ Frame H H' ∧ IsR H' r n := by
  have hl := rdigs_len64 hn
  exact rof_loop (runQ wk tab slow K d) K (by omega) n K H (.slice nilSl) [] (by omega) hn (Fr.refl _ _) (Own.nil _ _) rfl
/-- Cmp. -/
theorem rcmp_loop (C : CallC) (K : Nat) (H : Heap) {v w : SV} {xs ys : List Nat} (hv : Arr H v (rl xs)) (hw : Arr H w (rl ys)) (hl : xs.length = ys.length) (ha : RSmall xs) (hb : RSmall ys) (hlen : xs.length < 1000000000) : ∀ (n fuel : Nat), n ≤ xs.length → n < fuel → rval (xs.drop n) = rval (ys.drop n) →
    slow.loop3 (f43_l3 slow K C) fuel v w (.int .i64 ((n : Int) - 1)) H = some (.int .i64 (cmpN (rval xs) (rval ys)), H)
  | 0, fuel, hn, hf, he => by
    obtain ⟨fuel, rfl⟩ : ∃ m, fuel = m + 1 := ⟨fuel - 1, by omega⟩
    rw [z_loop3]
    have h0 : ¬ (((0 : Nat) : Int) - 1 ≥ 0) := by omega
    simp only [f43_l3, z_geq, decide_eq_false h0, z_cond, cond_false]
    simp only [List.drop_zero] at he
    simp [cmpN, he]
  | n + 1, fuel, hn, hf, he => by
    obtain ⟨fuel, rfl⟩ : ∃ m, fuel = m + 1 := ⟨fuel - 1, by omega⟩
    obtain ⟨x, hx⟩ : ∃ x, xs[n]? = some x := ⟨_, List.getElem?_eq_getElem (by omega)⟩
    obtain ⟨y, hy⟩ : ∃ y, ys[n]? = some y := ⟨_, List.getElem?_eq_getElem (by omega)⟩
    have hda : xs.drop n = x :: xs.drop (n + 1) := List.drop_eq_getElem?_toList_append (l := xs) (i := n) ▸ by rw [hx]; rfl
    have hdb : ys.drop n = y :: ys.drop (n + 1) := List.drop_eq_getElem?_toList_append (l := ys) (i := n) ▸ by rw [hy]; rfl
    rw [z_loop3]
    have h0 : (((n + 1 : Nat) : Int) - 1 ≥ 0) := by omega
    have e : (((n + 1 : Nat) : Int) - 1) = (n : Int) := by omega
    simp only [f43_l3, z_geq, decide_eq_true h0, z_cond, cond_true]
    rw [e]
    simp only [hv.load (rl_get hx), hw.load (rl_get hy), n_lss, n_gtr, z_cond]
    have hxs := ha x (List.mem_of_getElem? hx)
    have hys := hb y (List.mem_of_getElem? hy)
    have hva : rval xs = rval (xs.take n) + D ^ n * (x + D * rval (xs.drop (n + 1))) := by
      conv => lhs; rw [← List.take_append_drop n xs, rval_append, hda]
      rw [List.length_take_of_le (by omega)]; rfl
    have hvb : rval ys = rval (ys.take n) + D ^ n * (y + D * rval (ys.drop (n + 1))) := by
      conv => lhs; rw [← List.take_append_drop n ys, rval_append, hdb]
      rw [List.length_take_of_le (by omega)]; rfl
    have hta : rval (xs.take n) < D ^ n := by
      have := rval_lt (ds := xs.take n) fun d hd => ha d (List.mem_of_mem_take hd)
      rwa [List.length_take_of_le (by omega)] at this
    have htb : rval (ys.take n) < D ^ n := by
      have := rval_lt (ds := ys.take n) fun d hd => hb d (List.mem_of_mem_take hd)
      rwa [List.length_take_of_le (by omega)] at this
    have key : ∀ p q : Nat, p < q → p + D * rval (ys.drop (n + 1)) + 1 ≤ q + D * rval (ys.drop (n + 1)) := fun p q h => by omega
    by_cases h1 : x < y
    · simp only [decide_eq_true h1, cond_true]
      have : rval xs < rval ys := by
        rw [hva, hvb, he]
        have := Nat.mul_le_mul_left (D ^ n) (key x y h1)
        rw [Nat.mul_succ] at this
        omega
      simp [cmpN, this]
    · simp only [decide_eq_false h1, cond_false]
      by_cases h2 : x > y
      · simp only [decide_eq_true h2, cond_true]
        have : rval ys < rval xs := by
          rw [hva, hvb, he]
          have := Nat.mul_le_mul_left (D ^ n) (key y x h2)
          rw [Nat.mul_succ] at this
          omega
        have h3 : ¬ rval xs < rval ys := by omega
        simp [cmpN, this, h3]
      · simp only [decide_eq_false h2, cond_false]
        have hxy : x = y := by omega
        rw [z_sub64 (by omega) (by omega)]
        exact rcmp_loop C K H hv hw hl ha hb hlen n fuel (by omega) (by omega) (by rw [hda, hdb, rval, rval, hxy, he])
theorem rcmp_ok (K : Nat) (d : Nat) (H : Heap) {v w : SV} {a b : Nat} (hx : IsR H v a) (hy : IsR H w b) (hK : (rdigs a).length < K) (hb : (rdigs a).length < 1000000000) :
    runQ wk tab slow K (d + 1) 43 [v, w] H = some (.int .i64 (cmpN a b), H) := by
  show f43 slow K (runQ wk tab slow K d) v w H = _
  simp only [f43, rlen hx, rlen hy, n_neq, n_lss, z_cond]
  by_cases h : (rdigs a).length = (rdigs b).length
  · have hne : ¬ ((rdigs a).length ≠ (rdigs b).length) := fun hh => hh h
    simp only [decide_eq_false hne, cond_false]
    rw [z_sub64 (by omega) (by omega)]
    have := rcmp_loop (runQ wk tab slow K d) K H hx hy h (rdigs_small a) (rdigs_small b) hb (rdigs a).length K (Nat.le_refl _) hK (by rw [List.drop_length, h, List.drop_length])
    rw [rval_digs, rval_digs] at this
    exact this
  · simp only [decide_eq_true h, cond_true]
    by_cases h2 : (rdigs a).length < (rdigs b).length
    · simp only [decide_eq_true h2, cond_true]
      simp [cmpN, rval_cmp_len h2]
    · simp only [decide_eq_false h2, cond_false]
      have h3 := rval_cmp_len (a := b) (b := a) (by omega)
      have h4 : ¬ a < b := by omega
      simp [cmpN, h3, h4]
/-- Sub. -/
theorem rsub_loop (K : Nat) (d : Nat) {H0 : Heap} {v w : SV} {xs ys : List Nat} (hv : Arr H0 v (rl xs)) (hw : Arr H0 w (rl ys)) (hxs : RSmall xs) (hys : RSmall ys) (hlen : xs.length < 10000000) (hly : ys.length ≤ xs.length) (hK : xs.length < K) {S : Nat} (hS : rval xs = S + rval ys) : ∀ (m i fuel : Nat) (c : Nat) (H : Heap) (o : SV) (res : List Nat), i + m = xs.length → m < fuel → c ≤ 1 → RSmall res → res.length = i → Frame H0 H → Own H0.size H o (rl res) → rval res + D ^ i * rval (xs.drop i) = S + D ^ i * (c + rval (ys.drop i)) → rval (ys.drop i) + c ≤ rval (xs.drop i) →
    ∃ r H', slow.loop5 (f44_l1 slow K (runQ wk tab slow K (d + 1))) fuel v w o (u32 c) (i64 i) H = some (r, H') ∧ Frame H0 H' ∧ IsR H' r S ∧ ∀ q, inRow r q → H0.size ≤ q
  | 0, i, fuel, c, H, o, res, him, hf, hc, hres, hri, hfr, ho, he, hge => by
    obtain ⟨fuel, rfl⟩ : ∃ m, fuel = m + 1 := ⟨fuel - 1, by omega⟩
    have hi : i = xs.length := by omega
    have hdx : xs.drop i = [] := List.drop_eq_nil_iff.2 (by omega)
    have hdy : ys.drop i = [] := List.drop_eq_nil_iff.2 (by omega)
    rw [hdx, hdy] at he hge
    simp only [rval] at he hge
    have hc0 : c = 0 := by omega
    subst hc0
    have hvr : rval res = S := by simpa using he
    obtain ⟨sl, h1, h2, hin⟩ := rcut_ok K d H ho.arr hres (by omega) (by omega)
    rw [hvr] at h2
    refine ⟨sl, H, ?_, hfr, h2, fun q hq => Own.ge ho (hin q hq)⟩
    rw [z_loop5]
    have hlt : ¬ i < xs.length := by omega
    simp only [f44_l1, rlen (hv.fr hfr), n_lss, decide_eq_false hlt, z_cond, cond_false, h1, z_call, z_rest h2.good]
  | m + 1, i, fuel, c, H, o, res, him, hf, hc, hres, hri, hfr, ho, he, hge => by
    obtain ⟨fuel, rfl⟩ : ∃ m, fuel = m + 1 := ⟨fuel - 1, by omega⟩
    have hlt : i < xs.length := by omega
    obtain ⟨x, hx⟩ : ∃ x, xs[i]? = some x := ⟨_, List.getElem?_eq_getElem hlt⟩
    have hxD : x < 65536 := hxs x (List.mem_of_getElem? hx)
    have hdx : xs.drop i = x :: xs.drop (i + 1) := List.drop_eq_getElem?_toList_append (l := xs) (i := i) ▸ by rw [hx]; rfl
    have hv' := hv.fr hfr
    have hw' := hw.fr hfr
    obtain ⟨y, hy, hyD, hstep⟩ : ∃ y, rval (ys.drop i) = y + D * rval (ys.drop (i + 1)) ∧ y < 65536 ∧
        f44_l1 slow K (runQ wk tab slow K (d + 1)) v w o (u32 c) (i64 i) H (slow.loop5 (f44_l1 slow K (runQ wk tab slow K (d + 1))) fuel) = f44_j3 slow K (runQ wk tab slow K (d + 1)) (slow.loop5 (f44_l1 slow K (runQ wk tab slow K (d + 1))) fuel) v w o (i64 i) (u32 (x + 65536 - c - y)) H := by
      have hstart : ∀ A, (slow.add (u32 x) (.int .u32 65536) fun x12 => slow.sub x12 (u32 c) A) = A (u32 (x + 65536 - c)) := fun A => by
        rw [show (SV.int .u32 65536) = u32 65536 from rfl, n_add32, Nat.mod_eq_of_lt (by omega), n_sub32 _ (by omega) (by omega)]
        have : (x + 65536 + 4294967296 - c) % 4294967296 = x + 65536 - c := by omega
        rw [this]
      by_cases hib : i < ys.length
      · obtain ⟨y, hy⟩ : ∃ y, ys[i]? = some y := ⟨_, List.getElem?_eq_getElem hib⟩
        have hyD : y < 65536 := hys y (List.mem_of_getElem? hy)
        have hdb : ys.drop i = y :: ys.drop (i + 1) := List.drop_eq_getElem?_toList_append (l := ys) (i := i) ▸ by rw [hy]; rfl
        refine ⟨y, by rw [hdb]; rfl, hyD, ?_⟩
        simp only [f44_l1, rlen hv', n_lss, decide_eq_true hlt, z_cond, cond_true, hv'.load (rl_get hx)]
        rw [hstart]
        simp only [rlen hw', n_lss, decide_eq_true hib, z_cond, cond_true, hw'.load (rl_get hy)]
        rw [n_sub32 _ (by omega) (by omega)]
        have : (x + 65536 - c + 4294967296 - y) % 4294967296 = x + 65536 - c - y := by omega
        rw [this]
      · have hdb : ys.drop i = [] := List.drop_eq_nil_iff.2 (by omega)
        have hdb2 : ys.drop (i + 1) = [] := List.drop_eq_nil_iff.2 (by omega)
        refine ⟨0, by rw [hdb, hdb2]; rfl, by decide, ?_⟩
        simp only [f44_l1, rlen hv', n_lss, decide_eq_true hlt, z_cond, cond_true, hv'.load (rl_get hx)]
        rw [hstart]
        simp only [rlen hw', n_lss, decide_eq_false hib, z_cond, cond_false, Nat.sub_zero]
    obtain ⟨z, c', hz, hc', hzD, hc1, hbor⟩ : ∃ z c', (x + 65536 - c - y) % 65536 = z ∧ 1 - (x + 65536 - c - y) / 65536 = c' ∧ z < D ∧ c' ≤ 1 ∧ z + y + c = x + D * c' := by
      refine ⟨_, _, rfl, rfl, Nat.mod_lt _ (by decide), by omega, ?_⟩
      show _ = x + 65536 * _
      omega
    obtain ⟨o', H1, ha, ho1, f1, _⟩ := push1 ho hfr.size (.int .u32 0) (x := u32 z) rfl (by_ := 4) (roomy_small (by simp; omega))
    have e1 : rl res ++ [u32 z] = rl (res ++ [z]) := by simp [rl]
    rw [e1] at ho1
    rw [hdx, hy] at he hge
    simp only [rval] at he hge
    obtain ⟨r, H2, h2, f2, hr⟩ := rsub_loop K d hv hw hxs hys hlen hly hK hS m (i + 1) fuel c' H1 o' (res ++ [z]) (by omega) (by omega) hc1 (fun q hq => by
        rcases List.mem_append.1 hq with hq | hq
        · exact hres q hq
        · rw [List.mem_singleton.1 hq]; exact hzD) (by simp [hri]) (Fr.trans hfr f1) ho1 (by
        rw [rval_append, hri]
        simp only [rval, Nat.mul_zero, Nat.add_zero, Nat.pow_succ]
        generalize rval (ys.drop (i + 1)) = bv at *
        generalize rval (xs.drop (i + 1)) = rv at *
        generalize D ^ i = P at *
        have e1 : P * (z + y + c) = P * (x + D * c') := by rw [hbor]
        simp only [Nat.mul_add, Nat.mul_assoc] at he e1 ⊢
        omega) (by
        generalize rval (ys.drop (i + 1)) = bv at *
        generalize rval (xs.drop (i + 1)) = rv at *
        apply Nat.le_of_not_lt
        intro hlt2
        have : D * rv + D ≤ D * (bv + c') := by rw [← Nat.mul_succ]; exact Nat.mul_le_mul_left _ hlt2
        rw [Nat.mul_add] at this
        omega)
    refine ⟨r, H2, ?_, f2, hr⟩
    rw [z_loop5, hstep]
    unfold f44_j3
    have hs1 : (1 + 4294967296 - (x + 65536 - c - y) / 65536) % 4294967296 = c' := by omega
    rw [show (SV.int .u32 65536) = u32 65536 from rfl, n_rem _ .u32 _ (by decide), hz, ha, n_quo32 _ _ (by decide) (by omega), show (SV.int .u32 1) = u32 1 from rfl, n_sub32 _ (by decide) (by omega), hs1, show (SV.int .i64 1) = i64 1 from rfl, n_addi _ (by omega)]
    exact h2
theorem rsub_ok (K : Nat) (d : Nat) (H : Heap) {v w : SV} {a b : Nat} (hx : IsR H v a) (hy : IsR H w b) (hab : b ≤ a) (hK : (rdigs a).length < K) (hb : (rdigs a).length < 10000000) :
    ∃ r H', runQ wk tab slow K (d + 2) 44 [v, w] H = some (r, H') ∧ Frame H H' ∧ IsR H' r (a - b) ∧ ∀ q, inRow r q → H.size ≤ q := by
  have hl : (rdigs b).length ≤ (rdigs a).length := by
    apply Nat.le_of_not_lt
    intro hlt
    have := rval_cmp_len hlt
    omega
  exact rsub_loop K d hx hy (rdigs_small a) (rdigs_small b) hb hl hK (S := a - b) (by rw [rval_digs, rval_digs]; omega) (rdigs a).length 0 K 0 H (.slice nilSl) [] (by omega) hK (by omega) (fun q hq => by cases hq) rfl (Fr.refl _ _) (Own.nil _ _) (by rw [List.drop_zero, List.drop_zero, rval_digs, rval_digs]; simp [rval]; omega) (by rw [List.drop_zero, List.drop_zero, rval_digs, rval_digs]; omega)
end Go.Sh.Of
