/- Contracts of the reference's layer 1: numbers by digits to the base 2^16. Contracts of the reference's layer 1: Mul, Div, Small, Text. Contracts of the reference's layer 1: Small, Text; of layer 5: Of, Text. Contracts of the reference's layer 5: Fits, From, Tell. Contracts of the reference's layer 5: Tell, Identity; of law05: rows, same. Contracts of the reference: Of, of a machine's number. Contracts of the reference's layer 1: Add, Bits, Long, Digits, Parse; of layer 5: Parse. Contracts of the reference's layer 5: rows that are built; Add, Mul, Neg, Columns, Read. -/
import Derived.Test.YtpdkfleleebdaaaGreatDoorMat
import Derived.Test.YtpdkfleleebdaaaGreatDoorNum
set_option linter.unusedVariables false
set_option linter.unusedSimpArgs false
namespace Go.Sh.Of
open Go
def D : Nat := 65536
def rdigs (n : Nat) : List Nat := if h : n = 0 then [] else n % D :: rdigs (n / D)
termination_by n
decreasing_by exact Nat.div_lt_self (Nat.pos_of_ne_zero h) (by decide)
def rval : List Nat -> Nat
 | [] => 0
 | d :: ds => d + D * rval ds
def RSmall (ds : List Nat) : Prop := ∀ d ∈ ds, d < D
theorem rdigs_zero : rdigs 0 = [] := by rw [rdigs]; rfl
theorem rdigs_pos {n : Nat} (h : n ≠ 0) : rdigs n = n % D :: rdigs (n / D) := by rw [rdigs, dif_neg h]
theorem rval_digs (n : Nat) : rval (rdigs n) = n := by
 induction n using Nat.strongRecOn with
 | ind n ih =>
  by_cases h : n = 0
  ·subst h; rw [rdigs_zero]; rfl
  ·rw [rdigs_pos h, rval, ih (n / D) (Nat.div_lt_self (Nat.pos_of_ne_zero h) (by decide))]
   exact Nat.mod_add_div n D
theorem rdigs_small (n : Nat) : RSmall (rdigs n) := by
 induction n using Nat.strongRecOn with
 | ind n ih =>
  by_cases h : n = 0
  ·subst h; rw [rdigs_zero]; intro d hd; cases hd
  ·rw [rdigs_pos h]
   intro d hd
   rcases List.mem_cons.1 hd with rfl | hd
   ·exact Nat.mod_lt _ (by decide)
   ·exact ih (n / D) (Nat.div_lt_self (Nat.pos_of_ne_zero h) (by decide)) d hd
theorem rval_append (a b : List Nat) : rval (a ++ b) = rval a + D ^ a.length * rval b := by
 induction a with
 | nil => simp [rval]
 | cons d a ih => simp only [List.cons_append, rval, ih, List.length_cons, Nat.pow_succ, Nat.mul_add, Nat.add_assoc]; congr 1; congr 1; rw [Nat.mul_comm (D ^ a.length) D, Nat.mul_assoc]
theorem rval_lt {ds : List Nat} (h : RSmall ds) : rval ds < D ^ ds.length := by
 induction ds with
 | nil => simp [rval]
 | cons d ds ih =>
  have h1 := h d (by simp)
  have h2 := ih fun x hx => h x (by simp [hx])
  simp only [rval, List.length_cons, Nat.pow_succ]
  have : D * rval ds + D <= D * D ^ ds.length := by
   rw [<- Nat.mul_succ]
   exact Nat.mul_le_mul_left _ h2
  rw [Nat.mul_comm (D ^ ds.length) D]
  omega
theorem rval_zeros (n : Nat) : rval (List.replicate n 0) = 0 := by
 induction n with
 | zero => rfl
 | succ n ih => simp [List.replicate_succ, rval, ih]
theorem rdigs_val {ds : List Nat} (h : RSmall ds) (hl : ∀ d, ds.getLast? = some d -> d ≠ 0) : rdigs (rval ds) = ds := by
 induction ds with
 | nil => exact rdigs_zero
 | cons d ds ih =>
  have h1 := h d (by simp)
  have h2 : RSmall ds := fun x hx => h x (by simp [hx])
  have hne : rval (d :: ds) ≠ 0 := by
   cases ds with
   | nil =>
    have := hl d rfl
    simp only [rval]; omega
   | cons e es =>
    have hd := ih h2 fun x hx => hl x (by rw [List.getLast?_cons_cons]; exact hx)
    intro e0
    have h0 : rval (e :: es) = 0 := by
     simp only [rval] at e0 ⊢
     have : D * (e + D * rval es) = 0 := by omega
     exact (Nat.mul_eq_zero.1 this).resolve_left (by decide)
    rw [h0, rdigs_zero] at hd
    cases hd
  rw [rdigs_pos hne]
  have e1 : rval (d :: ds) % D = d := by
   simp only [rval]
   rw [Nat.add_mul_mod_self_left]
   exact Nat.mod_eq_of_lt h1
  have e2 : rval (d :: ds) / D = rval ds := by
   simp only [rval]
   rw [Nat.add_mul_div_left _ _ (by decide), Nat.div_eq_of_lt h1, Nat.zero_add]
  rw [e1, e2]
  cases ds with
  | nil => rw [show rval [] = 0 from rfl, rdigs_zero]
  | cons e es => rw [ih h2 fun x hx => hl x (by rw [List.getLast?_cons_cons]; exact hx)]
abbrev rl (ds : List Nat) : List SV := ds.map u32
theorem rdigs_len_le {n k : Nat} (h : n < D ^ k) : (rdigs n).length <= k := by
  induction k generalizing n with
  | zero => have : n = 0 := by simpa using h
            subst this; rw [rdigs_zero]; simp
  | succ k ih =>
    by_cases h0 : n = 0
    · subst h0; rw [rdigs_zero]; simp
    · rw [rdigs_pos h0, List.length_cons]
      have : n / D < D ^ k := by rw [Nat.div_lt_iff_lt_mul (by decide), <- Nat.pow_succ]; exact h
      exact Nat.succ_le_succ (ih this)
theorem rdigs_nil {n : Nat} : rdigs n = [] ↔ n = 0 := by
 constructor
 ·intro h
  have := rval_digs n
  rw [h] at this
  exact this.symm
 ·rintro rfl; exact rdigs_zero
theorem rl_len (ds : List Nat) : (rl ds).length = ds.length := by simp
theorem rl_get {ds : List Nat} {i d : Nat} (h : ds[i]? = some d) : (rl ds)[i]? = some (u32 d) := by simp [h]
theorem rlen {H : Heap} {v : SV} {ds : List Nat} (hv : Arr H v (rl ds)) (k : K1) : slow.len v k = k (i64 ds.length) := by rw [hv.len]; simp
theorem rval_cmp_len {a b : Nat} (h : (rdigs a).length < (rdigs b).length) : a < b := by
 have h1 := rval_lt (rdigs_small a)
 rw [rval_digs] at h1
 have hb0 : b ≠ 0 := fun e => by subst e; rw [rdigs_zero] at h; simp at h
 apply Nat.lt_of_not_le
 intro hle
 have : b < D ^ (rdigs a).length := Nat.lt_of_le_of_lt hle h1
 have := rdigs_len_le this
 omega
theorem rval_set : ∀ {o : List Nat} {i d z : Nat}, o[i]? = some d -> rval (o.set i z) + d * D ^ i = rval o + z * D ^ i
 | [], i, d, z, h => by simp at h
 | x :: o, 0, d, z, h => by simp at h; subst h; simp [rval]; omega
 | x :: o, i + 1, d, z, h => by
  simp only [List.getElem?_cons_succ] at h
  have ih := rval_set (z := z) h
  simp only [List.set_cons_succ, rval, Nat.pow_succ]
  have e1 : d * (D ^ i * D) = D * (d * D ^ i) := by rw [<- Nat.mul_assoc, Nat.mul_comm]
  have e2 : z * (D ^ i * D) = D * (z * D ^ i) := by rw [<- Nat.mul_assoc, Nat.mul_comm]
  rw [e1, e2, Nat.add_assoc, Nat.add_assoc, <- Nat.mul_add, <- Nat.mul_add, ih]
theorem rsmall_set {o : List Nat} (h : RSmall o) {i z : Nat} (hz : z < D) : RSmall (o.set i z) := fun d hd => by
 rcases List.mem_or_eq_of_mem_set hd with hd | rfl
 ·exact h d hd
 ·exact hz
theorem rsmall_zeros (n : Nat) : RSmall (List.replicate n 0) := fun d hd => by rw [List.eq_of_mem_replicate hd]; decide
theorem rl_zeros (n : Nat) : List.replicate n (SV.int .u32 0) = rl (List.replicate n 0) := by simp [rl]
theorem rl_set (o : List Nat) (i z : Nat) : (rl o).set i (u32 z) = rl (o.set i z) := by simp [rl, List.map_set]
abbrev IsR (H : Heap) (v : SV) (n : Nat) : Prop := Arr H v (rl (rdigs n))
theorem IsR.zero {H : Heap} {v : SV} (h : Arr H v []) : IsR H v 0 := by rw [IsR, rdigs_zero]; exact h
theorem Own.ge {lo : Nat} {H : Heap} {v : SV} {cs : List SV} (h : Own lo H v cs) {r : Nat} (hr : inRow v r) : lo <= r := by
 obtain ⟨base, rfl, h⟩ := h
 obtain ⟨s, o, e, h4⟩ := hr
 cases e
 rcases h with ⟨rfl, _⟩ | ⟨r', ver, rfl, h2, h3⟩
 ·cases h4
 ·cases h4; exact h2
theorem slice010r_ok {H : Heap} {v : SV} {cs : List SV} (h : Arr H v cs) {n : Nat} (hn : n <= cs.length) (kb : IntKind) :
  ∃ v', (∀ k, slow.slice010 1 v (.int kb n) H k = k v') /\ Arr H v' (cs.take n) /\ ∀ r, inRow v' r -> inRow v r := by
 obtain ⟨s, rfl, h2, h3⟩ := h
 have hfit : fitsCap H 1 s n = true := by
  unfold fitsCap
  rw [decide_eq_true (by rw [h2]; omega)]
  rfl
 have hesz : eszOk H 1 s 0 = true := rfl
 refine ⟨.slice { s with len := n, cap := s.cap.map (· - 0) }, fun k => ?_, ⟨_, rfl, by simp; omega, ?_⟩, fun r ⟨s', o, e, hb⟩ => by cases e; exact ⟨s, o, rfl, hb⟩⟩
 ·show (opR (.slice 1 false true false) [.slice s, .int kb n] H).bind k = _
  simp only [opR, sliceOp, loOf]
  rw [if_pos ⟨by omega, by omega, hfit, hesz⟩]
  simp [subSl]
 ·rcases h3 with rfl | ⟨r, o, row, b1, b2, b3, b4⟩
  ·left; simp
  ·right
   refine ⟨r, o, row, b1, b2, b3, fun i x hx => ?_⟩
   rw [List.getElem?_take] at hx
   split at hx
   ·exact b4 i x hx
   ·cases hx
theorem rcut_end {H : Heap} {v : SV} {ds : List Nat} (hv : Arr H v (rl ds)) (hs : RSmall ds) {n : Nat} (hn : n <= ds.length) (hval : rval (ds.take n) = rval ds) (hlast : ∀ d, (ds.take n).getLast? = some d -> d ≠ 0) :
  ∃ sl, (∀ k, slow.slice010 1 v (i64 n) H k = k sl) /\ IsR H sl (rval ds) /\ ∀ r, inRow sl r -> inRow v r := by
 obtain ⟨sl, h1, h2, hin⟩ := slice010r_ok hv (n := n) (by rw [rl_len]; exact hn) .i64
 have e : rdigs (rval ds) = ds.take n := by
  rw [<- hval]
  exact rdigs_val (fun d hd => hs d (List.mem_of_mem_take hd)) hlast
 refine ⟨sl, h1, ?_, hin⟩
 rw [IsR, e]
 rw [show rl (ds.take n) = (rl ds).take n from List.map_take]
 exact h2
theorem rcut_loop (C : CallC) (K : Nat) (H : Heap) {v : SV} {ds : List Nat} (hv : Arr H v (rl ds)) (hs : RSmall ds) (hb : ds.length < 1000000000) : ∀ (n fuel : Nat), n <= ds.length -> n < fuel -> rval (ds.take n) = rval ds ->
  ∃ sl, slow.loop2 (f80_l1 slow K C) fuel v (i64 n) H = some (sl, H) /\ IsR H sl (rval ds) /\ ∀ r, inRow sl r -> inRow v r
 | 0, fuel, hn, hf, hval => by
  obtain ⟨fuel, rfl⟩ : ∃ m, fuel = m + 1 := ⟨fuel - 1, by omega⟩
  obtain ⟨sl, h1, h2⟩ := rcut_end hv hs hn hval (fun d hd => by simp at hd)
  refine ⟨sl, ?_, h2⟩
  rw [z_loop2]
  have h00 : ¬ (((0 : Nat) : Int) > 0) := by omega
  simp only [f80_l1, z_gtr, decide_eq_false h00, z_guard, cond_false, f80_j2, z_cond, h1, z_rest h2.1.good]
 | n + 1, fuel, hn, hf, hval => by
  obtain ⟨fuel, rfl⟩ : ∃ m, fuel = m + 1 := ⟨fuel - 1, by omega⟩
  obtain ⟨d, hd⟩ : ∃ d, ds[n]? = some d := ⟨_, List.getElem?_eq_getElem (by omega)⟩
  have hpos : (((n + 1 : Nat) : Int)) > 0 := by omega
  have htk : ds.take (n + 1) = ds.take n ++ [d] := by rw [List.take_add_one, hd]; rfl
  rw [z_loop2]
  simp only [f80_l1, z_gtr, decide_eq_true hpos, z_guard, cond_true]
  rw [z_sub64 (by omega) (by omega)]
  have e : (((n + 1 : Nat) : Int) - 1) = (n : Int) := by omega
  rw [e]
  simp only [hv.load (rl_get hd), z_eql]
  by_cases h0 : d = 0
  ·subst h0
   have hb0 : (((0 : Nat) : Int) == 0) = true := rfl
   simp only [hb0, f80_j2, z_cond, cond_true]
   rw [z_sub64 (by omega) (by omega), e]
   exact rcut_loop C K H hv hs hb n fuel (by omega) (by omega) (by rw [<- hval, htk, rval_append]; simp [rval])
  ·have hb0 : ((d : Int) == 0) = false := by simp [h0]
   obtain ⟨sl, h1, h2⟩ := rcut_end hv hs hn hval (fun d' hd' => by rw [htk] at hd'; simp at hd'; omega)
   refine ⟨sl, ?_, h2⟩
   simp only [hb0, f80_j2, z_cond, cond_false, h1, z_rest h2.1.good]
theorem rcut_ok (K : Nat) (d : Nat) (H : Heap) {v : SV} {ds : List Nat} (hv : Arr H v (rl ds)) (hs : RSmall ds) (hK : ds.length < K) (hb : ds.length < 1000000000) :
  ∃ sl, runQ wk tab slow K (d + 1) 80 [v] H = some (sl, H) /\ IsR H sl (rval ds) /\ ∀ r, inRow sl r -> inRow v r := by
 show ∃ sl, f80 slow K (runQ wk tab slow K d) v H = _ /\ _
 simp only [f80, rlen hv]
 exact rcut_loop _ K H hv hs hb ds.length K (Nat.le_refl _) hK (by rw [List.take_length])
theorem rof_loop (C : CallC) (K : Nat) {H0 : Heap} {N : Nat} (hNl : (rdigs N).length <= 100) : ∀ (n fuel : Nat) (H : Heap) (o : SV) (pre : List Nat), (rdigs n).length < fuel -> n < 18446744073709551616 -> Frame H0 H -> Own H0.size H o (rl pre) -> pre ++ rdigs n = rdigs N ->
  ∃ r H', slow.loop2 (f56_l1 slow K C) fuel (u64 n) o H = some (r, H') /\ Frame H0 H' /\ IsR H' r N := by
 intro n
 induction n using Nat.strongRecOn with
 | ind n ih =>
  intro fuel H o pre hf hlt hfr ho hpre
  obtain ⟨fuel, rfl⟩ : ∃ m, fuel = m + 1 := ⟨fuel - 1, by omega⟩
  rw [z_loop2]
  by_cases h0 : n = 0
  ·subst h0
   rw [rdigs_zero, List.append_nil] at hpre
   have h00 : ¬ (((0 : Nat) : Int) > 0) := by omega
   refine ⟨o, H, ?_, hfr, by rw [IsR, <- hpre]; exact ho.arr⟩
   simp only [f56_l1, z_gtr, decide_eq_false h00, z_cond, cond_false, z_rest ho.arr.good]
  ·have hpos : ((n : Nat) : Int) > 0 := by omega
   have hm : n % 65536 % 4294967296 = n % 65536 := by omega
   have hpl : pre.length <= 100 := by
    have := congrArg List.length hpre
    rw [List.length_append] at this
    omega
   obtain ⟨o', H1, ha, ho1, f1, _⟩ := push1 ho hfr.size (.int .u32 0) (x := u32 (n % 65536)) rfl (by_ := 4) (roomy_small (by simp; omega))
   have e1 : rl pre ++ [u32 (n % 65536)] = rl (pre ++ [n % 65536]) := by simp [rl]
   rw [e1] at ho1
   rw [rdigs_pos h0] at hpre hf
   obtain ⟨r, H2, h2, f2, hr⟩ := ih (n / 65536) (Nat.div_lt_self (Nat.pos_of_ne_zero h0) (by decide)) fuel H1 o' (pre ++ [n % 65536]) (by
    have : (rdigs (n / D)).length + 1 < fuel + 1 := hf
    show (rdigs (n / D)).length < fuel
    omega) (by omega) (Fr.trans hfr f1) ho1 (by rw [<- hpre]; simp [D])
   refine ⟨r, H2, ?_, f2, hr⟩
   simp only [f56_l1, z_gtr, decide_eq_true hpos, z_cond, cond_true]
   rw [show (SV.int .u64 65536) = u64 65536 from rfl, n_rem _ .u64 n (by decide), n_conv32, hm, ha, n_quo64 _ n (by decide) hlt]
   exact h2
theorem rdigs_len64 {n : Nat} (hn : n < 18446744073709551616) : (rdigs n).length <= 4 := rdigs_len_le (k := 4) (by show n < 65536 ^ 4; omega)
theorem rof_ok (K : Nat) (hK : 1000 < K) (d : Nat) (H : Heap) {n : Nat} (hn : n < 18446744073709551616) :
  ∃ r H', runQ wk tab slow K (d + 1) 56 [u64 n] H = some (r, H') /\ Frame H H' /\ IsR H' r n := by
 have hl := rdigs_len64 hn
 exact rof_loop (runQ wk tab slow K d) K (by omega) n K H (.slice nilSl) [] (by omega) hn (Fr.refl _ _) (Own.nil _ _) rfl
theorem rcmp_loop (C : CallC) (K : Nat) (H : Heap) {v w : SV} {xs ys : List Nat} (hv : Arr H v (rl xs)) (hw : Arr H w (rl ys)) (hl : xs.length = ys.length) (ha : RSmall xs) (hb : RSmall ys) (hlen : xs.length < 1000000000) : ∀ (n fuel : Nat), n <= xs.length -> n < fuel -> rval (xs.drop n) = rval (ys.drop n) ->
  slow.loop3 (f82_l3 slow K C) fuel v w (.int .i64 ((n : Int) - 1)) H = some (.int .i64 (cmpN (rval xs) (rval ys)), H)
 | 0, fuel, hn, hf, he => by
  obtain ⟨fuel, rfl⟩ : ∃ m, fuel = m + 1 := ⟨fuel - 1, by omega⟩
  rw [z_loop3]
  have h0 : ¬ (((0 : Nat) : Int) - 1 >= 0) := by omega
  simp only [f82_l3, z_geq, decide_eq_false h0, z_cond, cond_false]
  simp only [List.drop_zero] at he
  simp [cmpN, he]
 | n + 1, fuel, hn, hf, he => by
  obtain ⟨fuel, rfl⟩ : ∃ m, fuel = m + 1 := ⟨fuel - 1, by omega⟩
  obtain ⟨x, hx⟩ : ∃ x, xs[n]? = some x := ⟨_, List.getElem?_eq_getElem (by omega)⟩
  obtain ⟨y, hy⟩ : ∃ y, ys[n]? = some y := ⟨_, List.getElem?_eq_getElem (by omega)⟩
  have hda : xs.drop n = x :: xs.drop (n + 1) := List.drop_eq_getElem?_toList_append (l := xs) (i := n) ▸ by rw [hx]; rfl
  have hdb : ys.drop n = y :: ys.drop (n + 1) := List.drop_eq_getElem?_toList_append (l := ys) (i := n) ▸ by rw [hy]; rfl
  rw [z_loop3]
  have h0 : (((n + 1 : Nat) : Int) - 1 >= 0) := by omega
  have e : (((n + 1 : Nat) : Int) - 1) = (n : Int) := by omega
  simp only [f82_l3, z_geq, decide_eq_true h0, z_cond, cond_true]
  rw [e]
  simp only [hv.load (rl_get hx), hw.load (rl_get hy), n_lss, n_gtr, z_cond]
  have hxs := ha x (List.mem_of_getElem? hx)
  have hys := hb y (List.mem_of_getElem? hy)
  have hva : rval xs = rval (xs.take n) + D ^ n * (x + D * rval (xs.drop (n + 1))) := by
   conv => lhs; rw [<- List.take_append_drop n xs, rval_append, hda]
   rw [List.length_take_of_le (by omega)]; rfl
  have hvb : rval ys = rval (ys.take n) + D ^ n * (y + D * rval (ys.drop (n + 1))) := by
   conv => lhs; rw [<- List.take_append_drop n ys, rval_append, hdb]
   rw [List.length_take_of_le (by omega)]; rfl
  have hta : rval (xs.take n) < D ^ n := by
   have := rval_lt (ds := xs.take n) fun d hd => ha d (List.mem_of_mem_take hd)
   rwa [List.length_take_of_le (by omega)] at this
  have htb : rval (ys.take n) < D ^ n := by
   have := rval_lt (ds := ys.take n) fun d hd => hb d (List.mem_of_mem_take hd)
   rwa [List.length_take_of_le (by omega)] at this
  have key : ∀ p q : Nat, p < q -> p + D * rval (ys.drop (n + 1)) + 1 <= q + D * rval (ys.drop (n + 1)) := fun p q h => by omega
  by_cases h1 : x < y
  ·simp only [decide_eq_true h1, cond_true]
   have : rval xs < rval ys := by
    rw [hva, hvb, he]
    have := Nat.mul_le_mul_left (D ^ n) (key x y h1)
    rw [Nat.mul_succ] at this
    omega
   simp [cmpN, this]
  ·simp only [decide_eq_false h1, cond_false]
   by_cases h2 : x > y
   ·simp only [decide_eq_true h2, cond_true]
    have : rval ys < rval xs := by
     rw [hva, hvb, he]
     have := Nat.mul_le_mul_left (D ^ n) (key y x h2)
     rw [Nat.mul_succ] at this
     omega
    have h3 : ¬ rval xs < rval ys := by omega
    simp [cmpN, this, h3]
   ·simp only [decide_eq_false h2, cond_false]
    have hxy : x = y := by omega
    rw [z_sub64 (by omega) (by omega)]
    exact rcmp_loop C K H hv hw hl ha hb hlen n fuel (by omega) (by omega) (by rw [hda, hdb, rval, rval, hxy, he])
theorem rcmp_ok (K : Nat) (d : Nat) (H : Heap) {v w : SV} {a b : Nat} (hx : IsR H v a) (hy : IsR H w b) (hK : (rdigs a).length < K) (hb : (rdigs a).length < 1000000000) :
  runQ wk tab slow K (d + 1) 82 [v, w] H = some (.int .i64 (cmpN a b), H) := by
 show f82 slow K (runQ wk tab slow K d) v w H = _
 simp only [f82, rlen hx, rlen hy, n_neq, n_lss, z_cond]
 by_cases h : (rdigs a).length = (rdigs b).length
 ·have hne : ¬ ((rdigs a).length ≠ (rdigs b).length) := fun hh => hh h
  simp only [decide_eq_false hne, cond_false]
  rw [z_sub64 (by omega) (by omega)]
  have := rcmp_loop (runQ wk tab slow K d) K H hx hy h (rdigs_small a) (rdigs_small b) hb (rdigs a).length K (Nat.le_refl _) hK (by rw [List.drop_length, h, List.drop_length])
  rw [rval_digs, rval_digs] at this
  exact this
 ·simp only [decide_eq_true h, cond_true]
  by_cases h2 : (rdigs a).length < (rdigs b).length
  ·simp only [decide_eq_true h2, cond_true]
   simp [cmpN, rval_cmp_len h2]
  ·simp only [decide_eq_false h2, cond_false]
   have h3 := rval_cmp_len (a := b) (b := a) (by omega)
   have h4 : ¬ a < b := by omega
   simp [cmpN, h3, h4]
theorem rsub_loop (K : Nat) (d : Nat) {H0 : Heap} {v w : SV} {xs ys : List Nat} (hv : Arr H0 v (rl xs)) (hw : Arr H0 w (rl ys)) (hxs : RSmall xs) (hys : RSmall ys) (hlen : xs.length < 10000000) (hly : ys.length <= xs.length) (hK : xs.length < K) {S : Nat} (hS : rval xs = S + rval ys) : ∀ (m i fuel : Nat) (c : Nat) (H : Heap) (o : SV) (res : List Nat), i + m = xs.length -> m < fuel -> c <= 1 -> RSmall res -> res.length = i -> Frame H0 H -> Own H0.size H o (rl res) -> rval res + D ^ i * rval (xs.drop i) = S + D ^ i * (c + rval (ys.drop i)) -> rval (ys.drop i) + c <= rval (xs.drop i) ->
  ∃ r H', slow.loop5 (f83_l1 slow K (runQ wk tab slow K (d + 1))) fuel v w o (u32 c) (i64 i) H = some (r, H') /\ Frame H0 H' /\ IsR H' r S /\ ∀ q, inRow r q -> H0.size <= q
 | 0, i, fuel, c, H, o, res, him, hf, hc, hres, hri, hfr, ho, he, hge => by
  obtain ⟨fuel, rfl⟩ : ∃ m, fuel = m + 1 := ⟨fuel - 1, by omega⟩
  have hi : i = xs.length := by omega
  have hdx : xs.drop i = [] := List.drop_eq_nil_iff.2 (by omega)
  have hdy : ys.drop i = [] := List.drop_eq_nil_iff.2 (by omega)
  rw [hdx, hdy] at he hge
  simp only [rval] at he hge
  have hc0 : c = 0 := by omega
  subst hc0
  have hvr : rval res = S := by simpa using he
  obtain ⟨sl, h1, h2, hin⟩ := rcut_ok K d H ho.arr hres (by omega) (by omega)
  rw [hvr] at h2
  refine ⟨sl, H, ?_, hfr, h2, fun q hq => Own.ge ho (hin q hq)⟩
  rw [z_loop5]
  have hlt : ¬ i < xs.length := by omega
  simp only [f83_l1, rlen (hv.fr hfr), n_lss, decide_eq_false hlt, z_cond, cond_false, h1, z_call, z_rest h2.good]
 | m + 1, i, fuel, c, H, o, res, him, hf, hc, hres, hri, hfr, ho, he, hge => by
  obtain ⟨fuel, rfl⟩ : ∃ m, fuel = m + 1 := ⟨fuel - 1, by omega⟩
  have hlt : i < xs.length := by omega
  obtain ⟨x, hx⟩ : ∃ x, xs[i]? = some x := ⟨_, List.getElem?_eq_getElem hlt⟩
  have hxD : x < 65536 := hxs x (List.mem_of_getElem? hx)
  have hdx : xs.drop i = x :: xs.drop (i + 1) := List.drop_eq_getElem?_toList_append (l := xs) (i := i) ▸ by rw [hx]; rfl
  have hv' := hv.fr hfr
  have hw' := hw.fr hfr
  obtain ⟨y, hy, hyD, hstep⟩ : ∃ y, rval (ys.drop i) = y + D * rval (ys.drop (i + 1)) /\ y < 65536 /\ 
    f83_l1 slow K (runQ wk tab slow K (d + 1)) v w o (u32 c) (i64 i) H (slow.loop5 (f83_l1 slow K (runQ wk tab slow K (d + 1))) fuel) = f83_j3 slow K (runQ wk tab slow K (d + 1)) (slow.loop5 (f83_l1 slow K (runQ wk tab slow K (d + 1))) fuel) v w o (i64 i) (u32 (x + 65536 - c - y)) H := by
   have hstart : ∀ A, (slow.add (u32 x) (.int .u32 65536) fun x12 => slow.sub x12 (u32 c) A) = A (u32 (x + 65536 - c)) := fun A => by
    rw [show (SV.int .u32 65536) = u32 65536 from rfl, n_add32, Nat.mod_eq_of_lt (by omega), n_sub32 _ (by omega) (by omega)]
    have : (x + 65536 + 4294967296 - c) % 4294967296 = x + 65536 - c := by omega
    rw [this]
   by_cases hib : i < ys.length
   ·obtain ⟨y, hy⟩ : ∃ y, ys[i]? = some y := ⟨_, List.getElem?_eq_getElem hib⟩
    have hyD : y < 65536 := hys y (List.mem_of_getElem? hy)
    have hdb : ys.drop i = y :: ys.drop (i + 1) := List.drop_eq_getElem?_toList_append (l := ys) (i := i) ▸ by rw [hy]; rfl
    refine ⟨y, by rw [hdb]; rfl, hyD, ?_⟩
    simp only [f83_l1, rlen hv', n_lss, decide_eq_true hlt, z_cond, cond_true, hv'.load (rl_get hx)]
    rw [hstart]
    simp only [rlen hw', n_lss, decide_eq_true hib, z_cond, cond_true, hw'.load (rl_get hy)]
    rw [n_sub32 _ (by omega) (by omega)]
    have : (x + 65536 - c + 4294967296 - y) % 4294967296 = x + 65536 - c - y := by omega
    rw [this]
   ·have hdb : ys.drop i = [] := List.drop_eq_nil_iff.2 (by omega)
    have hdb2 : ys.drop (i + 1) = [] := List.drop_eq_nil_iff.2 (by omega)
    refine ⟨0, by rw [hdb, hdb2]; rfl, by decide, ?_⟩
    simp only [f83_l1, rlen hv', n_lss, decide_eq_true hlt, z_cond, cond_true, hv'.load (rl_get hx)]
    rw [hstart]
    simp only [rlen hw', n_lss, decide_eq_false hib, z_cond, cond_false, Nat.sub_zero]
  obtain ⟨z, c', hz, hc', hzD, hc1, hbor⟩ : ∃ z c', (x + 65536 - c - y) % 65536 = z /\ 1 - (x + 65536 - c - y) / 65536 = c' /\ z < D /\ c' <= 1 /\ z + y + c = x + D * c' := by
   refine ⟨_, _, rfl, rfl, Nat.mod_lt _ (by decide), by omega, ?_⟩
   show _ = x + 65536 * _
   omega
  obtain ⟨o', H1, ha, ho1, f1, _⟩ := push1 ho hfr.size (.int .u32 0) (x := u32 z) rfl (by_ := 4) (roomy_small (by simp; omega))
  have e1 : rl res ++ [u32 z] = rl (res ++ [z]) := by simp [rl]
  rw [e1] at ho1
  rw [hdx, hy] at he hge
  simp only [rval] at he hge
  obtain ⟨r, H2, h2, f2, hr⟩ := rsub_loop K d hv hw hxs hys hlen hly hK hS m (i + 1) fuel c' H1 o' (res ++ [z]) (by omega) (by omega) hc1 (fun q hq => by
    rcases List.mem_append.1 hq with hq | hq
    ·exact hres q hq
    ·rw [List.mem_singleton.1 hq]; exact hzD) (by simp [hri]) (Fr.trans hfr f1) ho1 (by
    rw [rval_append, hri]
    simp only [rval, Nat.mul_zero, Nat.add_zero, Nat.pow_succ]
    generalize rval (ys.drop (i + 1)) = bv at *
    generalize rval (xs.drop (i + 1)) = rv at *
    generalize D ^ i = P at *
    have e1 : P * (z + y + c) = P * (x + D * c') := by rw [hbor]
    simp only [Nat.mul_add, Nat.mul_assoc] at he e1 ⊢
    omega) (by
    generalize rval (ys.drop (i + 1)) = bv at *
    generalize rval (xs.drop (i + 1)) = rv at *
    apply Nat.le_of_not_lt
    intro hlt2
    have : D * rv + D <= D * (bv + c') := by rw [<- Nat.mul_succ]; exact Nat.mul_le_mul_left _ hlt2
    rw [Nat.mul_add] at this
    omega)
  refine ⟨r, H2, ?_, f2, hr⟩
  rw [z_loop5, hstep]
  unfold f83_j3
  have hs1 : (1 + 4294967296 - (x + 65536 - c - y) / 65536) % 4294967296 = c' := by omega
  rw [show (SV.int .u32 65536) = u32 65536 from rfl, n_rem _ .u32 _ (by decide), hz, ha, n_quo32 _ _ (by decide) (by omega), show (SV.int .u32 1) = u32 1 from rfl, n_sub32 _ (by decide) (by omega), hs1, show (SV.int .i64 1) = i64 1 from rfl, n_addi _ (by omega)]
  exact h2
theorem rsub_ok (K : Nat) (d : Nat) (H : Heap) {v w : SV} {a b : Nat} (hx : IsR H v a) (hy : IsR H w b) (hab : b <= a) (hK : (rdigs a).length < K) (hb : (rdigs a).length < 10000000) :
  ∃ r H', runQ wk tab slow K (d + 2) 83 [v, w] H = some (r, H') /\ Frame H H' /\ IsR H' r (a - b) /\ ∀ q, inRow r q -> H.size <= q := by
 have hl : (rdigs b).length <= (rdigs a).length := by
  apply Nat.le_of_not_lt
  intro hlt
  have := rval_cmp_len hlt
  omega
 exact rsub_loop K d hx hy (rdigs_small a) (rdigs_small b) hb hl hK (S := a - b) (by rw [rval_digs, rval_digs]; omega) (rdigs a).length 0 K 0 H (.slice nilSl) [] (by omega) hK (by omega) (fun q hq => by cases hq) rfl (Fr.refl _ _) (Own.nil _ _) (by rw [List.drop_zero, List.drop_zero, rval_digs, rval_digs]; simp [rval]; omega) (by rw [List.drop_zero, List.drop_zero, rval_digs, rval_digs]; omega)
end Go.Sh.Of
namespace Go.Sh.Of
open Go
theorem rmul_in (C : CallC) (K : Nat) (lo : Nat) {H0 : Heap} {va w v : SV} {xs ys : List Nat} (ha : Arr H0 va (rl xs)) (hw : Arr H0 w (rl ys)) (hlo : lo = H0.size) (hys : RSmall ys) (k11 : SV -> SV -> SV -> SV -> Heap -> Rs) {i x : Nat} (hx : xs[i]? = some x) (hxD : x < 65536) (hla : xs.length < 10000000) (hlb : ys.length < 10000000) {r : Nat} {S : Nat} : ∀ (m k fuel : Nat) (c : Nat) (H : Heap) (o : List Nat), k + m = ys.length -> m + 1 < fuel -> c < 65536 -> RSmall o -> o.length = xs.length + ys.length -> Frame H0 H -> Wr lo H v r [] (rl o) [] -> (∀ q, i + ys.length <= q -> q < o.length -> o[q]? = some 0) -> rval o + D ^ (i + k) * (c + x * rval (ys.drop k)) = S ->
  ∃ o' H', slow.loop6 (f55_l3 slow K C k11) fuel va w v (i64 i) (u64 c) (i64 k) H = k11 va w v (i64 (i + 1)) H' /\ Frame H0 H' /\ Wr lo H' v r [] (rl o') [] /\ RSmall o' /\ o'.length = xs.length + ys.length /\ rval o' = S /\ (∀ q, i + 1 + ys.length <= q -> q < o'.length -> o'[q]? = some 0)
 | 0, k, fuel, c, H, o, hkm, hf, hc, hos, hol, hfr, hwr, hz, hv => by
  obtain ⟨fuel, rfl⟩ : ∃ m, fuel = m + 1 := ⟨fuel - 1, by omega⟩
  have hk : k = ys.length := by omega
  subst hk
  have hi : i < xs.length := (List.getElem?_eq_some_iff.1 hx).1
  have hw' := hw.fr hfr
  rw [List.drop_length] at hv
  simp only [rval, Nat.mul_zero, Nat.add_zero] at hv
  have hlt : ¬ (ys.length < ys.length) := Nat.lt_irrefl _
  by_cases hc0 : c = 0
  ·subst hc0
   refine ⟨o, H, ?_, hfr, hwr, hos, hol, by simpa using hv, fun q h1 h2 => hz q (by omega) h2⟩
   rw [z_loop6]
   have h00 : ¬ (((0 : Nat) : Int) > 0) := by omega
   simp only [f55_l3, rlen hw', n_lss, decide_eq_false hlt, z_guard, cond_false, z_gtr, decide_eq_false h00, f55_j4, z_cond]
   rw [show (SV.int .i64 1) = i64 1 from rfl, n_addi _ (by omega)]
  ·have h0 : o[i + ys.length]? = some 0 := hz _ (Nat.le_refl _) (by omega)
   obtain ⟨fuel, rfl⟩ : ∃ m, fuel = m + 1 := ⟨fuel - 1, by omega⟩
   have hcp : ((c : Nat) : Int) > 0 := by omega
   have hm1 : (0 + c) % 65536 % 4294967296 = c := by omega
   obtain ⟨H1, st, hw1, f1, sz1, _⟩ := hwr.store (i := i + ys.length) (by simp; omega) (x := u32 c) rfl .i64
   rw [rl_set] at hw1
   have hvs := rval_set (z := c) h0
   have hfr1 : Frame H0 H1 := Fr.trans hfr (by rw [<- hlo]; exact f1)
   have hlt2 : ¬ (ys.length + 1 < ys.length) := by omega
   have h00 : ¬ ((((0 + c) / 65536 : Nat) : Int) > 0) := by omega
   refine ⟨o.set (i + ys.length) c, H1, ?_, hfr1, hw1, rsmall_set hos hc, by simpa using hol, ?_, fun q h1 h2 => ?_⟩
   ·rw [z_loop6]
    simp only [f55_l3, rlen hw', n_lss, decide_eq_false hlt, z_guard, cond_false, z_gtr, decide_eq_true hcp, f55_j4, z_cond, cond_true]
    rw [n_addi _ (by omega), hwr.arr.load (rl_get h0), n_conv64 _ .u32 0 (by omega), n_add64 _ (by omega)]
    unfold f55_j6
    rw [n_addi _ (by omega), show (SV.int .u64 65536) = u64 65536 from rfl, n_rem _ .u64 _ (by decide), n_conv32, hm1, st, n_quo64 _ _ (by decide) (by omega), show (SV.int .i64 1) = i64 1 from rfl, n_addi _ (by omega)]
    rw [z_loop6]
    simp only [f55_l3, rlen (hw.fr hfr1), n_lss, decide_eq_false hlt2, z_guard, cond_false, z_gtr, decide_eq_false h00, f55_j4, z_cond]
    rw [show (SV.int .i64 1) = i64 1 from rfl, n_addi _ (by omega)]
   ·rw [<- hv]
    rw [Nat.mul_comm c] at hvs
    omega
   ·rw [List.getElem?_set_ne (by omega)]
    exact hz q (by omega) (by simpa using h2)
 | m + 1, k, fuel, c, H, o, hkm, hf, hc, hos, hol, hfr, hwr, hz, hv => by
  obtain ⟨fuel, rfl⟩ : ∃ m, fuel = m + 1 := ⟨fuel - 1, by omega⟩
  have hlt : k < ys.length := by omega
  have hi : i < xs.length := (List.getElem?_eq_some_iff.1 hx).1
  have hw' := hw.fr hfr
  have ha' := ha.fr hfr
  obtain ⟨y, hy⟩ : ∃ y, ys[k]? = some y := ⟨_, List.getElem?_eq_getElem hlt⟩
  have hyD : y < 65536 := hys y (List.mem_of_getElem? hy)
  have hdb : ys.drop k = y :: ys.drop (k + 1) := List.drop_eq_getElem?_toList_append (l := ys) (i := k) ▸ by rw [hy]; rfl
  obtain ⟨z, hz1⟩ : ∃ z, o[i + k]? = some z := ⟨_, List.getElem?_eq_getElem (by omega)⟩
  have hzD : z < 65536 := hos z (List.mem_of_getElem? hz1)
  have hxy : x * y <= 65535 * 65535 := Nat.mul_le_mul (by omega) (by omega)
  obtain ⟨p, q, hp, hq, hpD, hqD, hpq⟩ : ∃ p q, (z + c + x * y) % 65536 = p /\ (z + c + x * y) / 65536 = q /\ p < D /\ q < 65536 /\ z + c + x * y = p + D * q := by
   refine ⟨_, _, rfl, rfl, Nat.mod_lt _ (by decide), by omega, (Nat.mod_add_div _ 65536).symm⟩
  have hm1 : p % 4294967296 = p := Nat.mod_eq_of_lt (by show p < 4294967296; have : p < 65536 := hpD; omega)
  obtain ⟨H1, st, hw1, f1, sz1, _⟩ := hwr.store (i := i + k) (by simp; omega) (x := u32 p) rfl .i64
  rw [rl_set] at hw1
  have hvs := rval_set (z := p) hz1
  obtain ⟨o', H', h1, h2, h3, h4, h5, h6, h7⟩ := rmul_in C K lo ha hw hlo hys k11 hx hxD hla hlb (S := S) m (k + 1) fuel q H1 (o.set (i + k) p) (by omega) (by omega) hqD (rsmall_set hos hpD) (by simpa using hol) (Fr.trans hfr (by rw [<- hlo]; exact f1)) hw1 (fun t q1 q2 => by
    rw [List.getElem?_set_ne (by omega)]
    exact hz t q1 (by simpa using q2)) (by
    rw [<- hv, hdb]
    simp only [rval]
    rw [show i + (k + 1) = (i + k) + 1 by omega, Nat.pow_succ]
    generalize rval (ys.drop (k + 1)) = bv at *
    generalize D ^ (i + k) = P at *
    have e2 : P * (z + c + x * y) = P * (p + D * q) := by rw [hpq]
    have e3 : x * (D * bv) = D * (x * bv) := by rw [<- Nat.mul_assoc, Nat.mul_comm x D, Nat.mul_assoc]
    simp only [Nat.mul_add, Nat.mul_assoc, e3] at e2 hvs ⊢
    rw [Nat.mul_comm z P, Nat.mul_comm p P] at hvs
    omega)
  refine ⟨o', H', ?_, h2, h3, h4, h5, h6, h7⟩
  rw [z_loop6]
  simp only [f55_l3, rlen hw', n_lss, decide_eq_true hlt, z_guard, cond_true, f55_j4, z_cond]
  rw [n_addi _ (by omega), hwr.arr.load (rl_get hz1), n_conv64 _ .u32 z (by omega), n_add64 _ (by omega)]
  simp only [rlen hw', n_lss, decide_eq_true hlt, z_cond, cond_true, ha'.load (rl_get hx), hw'.load (rl_get hy)]
  rw [n_conv64 _ .u32 x (by omega), n_conv64 _ .u32 y (by omega), n_mul64 _ (by omega), n_add64 _ (by omega)]
  unfold f55_j6
  rw [n_addi _ (by omega), show (SV.int .u64 65536) = u64 65536 from rfl, n_rem _ .u64 _ (by decide), n_conv32, hp, hm1, st, n_quo64 _ _ (by decide) (by omega), hq, show (SV.int .i64 1) = i64 1 from rfl, n_addi _ (by omega)]
  exact h1
theorem rmul_out (K : Nat) (d : Nat) (lo : Nat) {H0 : Heap} {v va w : SV} {xs ys : List Nat} (ha : Arr H0 va (rl xs)) (hw : Arr H0 w (rl ys)) (hlo : lo = H0.size) (hxs : RSmall xs) (hys : RSmall ys) (hla : xs.length < 10000000) (hlb : ys.length < 10000000) (hK : xs.length + ys.length + 2 < K) {r : Nat} : ∀ (m i fuel : Nat) (H : Heap) (o : List Nat), i + m = xs.length -> m < fuel -> RSmall o -> o.length = xs.length + ys.length -> Frame H0 H -> Wr lo H v r [] (rl o) [] -> (∀ q, i + ys.length <= q -> q < o.length -> o[q]? = some 0) -> rval o + D ^ i * (rval (xs.drop i) * rval ys) = rval xs * rval ys ->
  ∃ rr H', slow.loop4 (f55_l1 slow K (runQ wk tab slow K (d + 1))) fuel va w v (i64 i) H = some (rr, H') /\ Frame H0 H' /\ IsR H' rr (rval xs * rval ys)
 | 0, i, fuel, H, o, hij, hf, hos, hol, hfr, hwr, hz, hv => by
  obtain ⟨fuel, rfl⟩ : ∃ m, fuel = m + 1 := ⟨fuel - 1, by omega⟩
  have hi : i = xs.length := by omega
  subst hi
  rw [List.drop_length] at hv
  have hvo : rval o = rval xs * rval ys := by simpa [rval] using hv
  obtain ⟨sl, h2, h3, _⟩ := rcut_ok K d H (ds := o) hwr.arr hos (by omega) (by omega)
  rw [hvo] at h3
  rw [z_loop4]
  have hlt : ¬ (xs.length < xs.length) := Nat.lt_irrefl _
  simp only [f55_l1, rlen (ha.fr hfr), n_lss, decide_eq_false hlt, z_cond, cond_false, h2, z_call, z_rest h3.good]
  exact ⟨_, H, rfl, hfr, h3⟩
 | m + 1, i, fuel, H, o, hij, hf, hos, hol, hfr, hwr, hz, hv => by
  obtain ⟨fuel, rfl⟩ : ∃ m, fuel = m + 1 := ⟨fuel - 1, by omega⟩
  have hlt : i < xs.length := by omega
  obtain ⟨x, hx⟩ : ∃ x, xs[i]? = some x := ⟨_, List.getElem?_eq_getElem hlt⟩
  have hdx : xs.drop i = x :: xs.drop (i + 1) := List.drop_eq_getElem?_toList_append (l := xs) (i := i) ▸ by rw [hx]; rfl
  obtain ⟨o', H1, h1, f1, w1, s1, l1, v1, z1⟩ := rmul_in (runQ wk tab slow K (d + 1)) K lo ha hw hlo hys (slow.loop4 (f55_l1 slow K (runQ wk tab slow K (d + 1))) fuel) hx (hxs x (List.mem_of_getElem? hx)) hla hlb (S := rval o + D ^ i * (x * rval ys)) ys.length 0 K 0 H o (by omega) (by omega) (by decide) hos hol hfr hwr hz (by rw [List.drop_zero]; simp)
  obtain ⟨rr, H2, h2, f2, n2⟩ := rmul_out K d lo ha hw hlo hxs hys hla hlb hK m (i + 1) fuel H1 o' (by omega) (by omega) s1 l1 f1 w1 z1 (by
   rw [v1, <- hv, hdx, Nat.pow_succ]
   simp only [rval]
   generalize rval (xs.drop (i + 1)) = xv
   generalize rval ys = bv
   generalize D ^ i = P
   simp only [Nat.mul_add, Nat.add_mul, Nat.mul_assoc]
   omega)
  refine ⟨rr, H2, ?_, f2, n2⟩
  rw [z_loop4]
  simp only [f55_l1, rlen (ha.fr hfr), n_lss, decide_eq_true hlt, z_cond, cond_true]
  rw [show (SV.int .u64 0) = u64 0 from rfl, show (SV.int .i64 0) = i64 0 from rfl, h1]
  exact h2
theorem rmul01_ok (K : Nat) (d : Nat) (H : Heap) {v w : SV} {a b : Nat} (hx : IsR H v a) (hy : IsR H w b) (hla : (rdigs a).length < 10000000) (hlb : (rdigs b).length < 10000000) (hK : (rdigs a).length + (rdigs b).length + 2 < K) :
  ∃ r H', runQ wk tab slow K (d + 2) 55 [v, w] H = some (r, H') /\ Frame H H' /\ IsR H' r (a * b) := by
 show ∃ r H', f55 slow K (runQ wk tab slow K (d + 1)) v w H = _ /\ _
 simp only [f55, rlen hx, rlen hy]
 rw [n_addi _ (by omega)]
 obtain ⟨u, H1, h1, w1, f1, ru, _, _⟩ := z_makeW (H := H) (lo := H.size) (Nat.le_refl _) 4 (.int .u32 0) ((rdigs a).length + (rdigs b).length) (by omega) (roomy_small (by omega)) .i64 .i64
 rw [rl_zeros] at w1
 rw [h1]
 have := rmul_out K d H.size hx hy rfl (rdigs_small a) (rdigs_small b) hla hlb hK (rdigs a).length 0 K H1 (List.replicate ((rdigs a).length + (rdigs b).length) 0) (by omega) (by omega) (rsmall_zeros _) (by simp) f1 w1 (fun q _ h => by rw [List.getElem?_replicate]; rw [List.length_replicate] at h; rw [if_pos h]) (by rw [rval_zeros, List.drop_zero]; simp)
 rw [rval_digs, rval_digs] at this
 exact this
theorem rdigs_lt (n : Nat) : n < D ^ (rdigs n).length := by have := rval_lt (rdigs_small n); rwa [rval_digs] at this
theorem rdigs_mono {a b : Nat} (h : a <= b) : (rdigs a).length <= (rdigs b).length := rdigs_len_le (Nat.lt_of_le_of_lt h (rdigs_lt b))
theorem rdiv_in (K : Nat) (d : Nat) {H0 : Heap} {va w v rv : SV} {ds : List Nat} {b R : Nat} (lo : Nat) (hlo : lo = H0.size) (hw : IsR H0 w b) (hbl : (rdigs b).length < 1000000) (hK : 3000000 < K) {r : Nat} {Hr : Heap} (hrv : IsR Hr rv R) (hfr0 : Frame H0 Hr) (hwr : Wr lo Hr v r [] (rl ds) []) {i : Nat} (hi : i < ds.length) (hi9 : i < 1000000) (hRl : (rdigs R).length < 2000000) (hb : 0 < b) (hnr : ¬ inRow rv r) (k12 : SV -> SV -> SV -> SV -> SV -> Heap -> Rs) : ∀ (n low high fuel : Nat) (H : Heap), high - low <= n -> n < fuel -> low < high -> high <= 65536 -> low * b <= R -> R < high * b -> Frame Hr H ->
  ∃ rv' H', slow.loop7 (f59_l3 slow K (runQ wk tab slow K (d + 2)) k12) fuel va w v rv (i64 i) (u64 low) (u64 high) H = k12 va w v rv' (.int .i64 ((i : Int) - 1)) H' /\ Frame H0 H' /\ Wr lo H' v r [] (rl (ds.set i (R / b))) [] /\ IsR H' rv' (R % b) /\ ¬ inRow rv' r
 | n, low, high, fuel, H, hn, hf, hlh, hh, h1, h2, hfr => by
  obtain ⟨fuel, rfl⟩ : ∃ m, fuel = m + 1 := ⟨fuel - 1, by omega⟩
  rw [z_loop7]
  have hf0 : Frame H0 H := Frame.trans hfr0 hfr
  by_cases hg : high - low > 1
  ·have hgi : ((high - low : Nat) : Int) > 1 := by omega
   obtain ⟨mv, H1, e1, f1, m1⟩ := rof_ok K (by omega) (d + 1) H (n := (low + high) / 2) (by omega)
   have hml : (rdigs ((low + high) / 2)).length <= 4 := rdigs_len64 (by omega)
   obtain ⟨pv, H2, e2, f2, p2⟩ := rmul01_ok K d H1 m1 (hw.fr (Frame.trans hf0 f1)) (by omega) (by omega) (by omega)
   have f12 := Frame.trans f1 f2
   have hrH := hrv.fr (Frame.trans hfr f12)
   have hpl : (rdigs ((low + high) / 2 * b)).length <= (rdigs ((low + high) / 2)).length + (rdigs b).length := rdigs_len_le (by
    rw [Nat.pow_add]
    exact Nat.mul_lt_mul'' (rdigs_lt _) (rdigs_lt _))
   have e3 := rcmp_ok K (d + 1) H2 p2 hrH (by omega) (by omega)
   by_cases hle : (low + high) / 2 * b <= R
   ·have hcm : cmpN ((low + high) / 2 * b) R <= 0 := by unfold cmpN; split; omega; split; omega; omega
    obtain ⟨rv', H', g1, g2, g3, g4⟩ := rdiv_in K d lo hlo hw hbl hK hrv hfr0 hwr hi hi9 hRl hb hnr k12 (n - 1) ((low + high) / 2) high fuel H2 (by omega) (by omega) (by omega) hh hle h2 (Frame.trans hfr f12)
    refine ⟨rv', H', ?_, g2, g3, g4⟩
    simp only [f59_l3]
    rw [n_sub64 _ (by omega) (by omega), z_gtr, decide_eq_true hgi, z_cond, cond_true, n_add64 _ (by omega), show (SV.int .u64 2) = u64 2 from rfl, n_quo64 _ _ (by decide) (by omega), e1, z_call, e2, z_call, e3, z_call, z_leq, decide_eq_true hcm, z_cond, cond_true]
    exact g1
   ·have hcm : ¬ cmpN ((low + high) / 2 * b) R <= 0 := by unfold cmpN; rw [if_neg (by omega), if_pos (by omega)]; omega
    obtain ⟨rv', H', g1, g2, g3, g4⟩ := rdiv_in K d lo hlo hw hbl hK hrv hfr0 hwr hi hi9 hRl hb hnr k12 (n - 1) low ((low + high) / 2) fuel H2 (by omega) (by omega) (by omega) (by omega) h1 (by omega) (Frame.trans hfr f12)
    refine ⟨rv', H', ?_, g2, g3, g4⟩
    simp only [f59_l3]
    rw [n_sub64 _ (by omega) (by omega), z_gtr, decide_eq_true hgi, z_cond, cond_true, n_add64 _ (by omega), show (SV.int .u64 2) = u64 2 from rfl, n_quo64 _ _ (by decide) (by omega), e1, z_call, e2, z_call, e3, z_call, z_leq, decide_eq_false hcm, z_cond, cond_false]
    exact g1
  ·have hgi : ¬ ((high - low : Nat) : Int) > 1 := by omega
   have hhl : high = low + 1 := by omega
   subst hhl
   have hq : R / b = low := by
    rw [Nat.div_eq_iff hb]
    rw [Nat.succ_mul] at h2
    constructor
    ·exact h1
    ·omega
   have hwrH := hwr.fr hfr
   have hlm : low % 4294967296 = low := Nat.mod_eq_of_lt (by omega)
   obtain ⟨H1, st, hw1, f1, sz1, hro⟩ := hwrH.store (i := i) (by simpa using hi) (x := u32 low) rfl .i64
   rw [rl_set] at hw1
   have hf1 : Frame H0 H1 := Fr.trans hf0 (by rw [<- hlo]; exact f1)
   have hrv1 : IsR H1 rv R := Arr.of_rows (hrv.fr hfr) fun q hq => hro q fun e => hnr (e ▸ hq)
   obtain ⟨mv, H2, e1, f2, m1⟩ := rof_ok K (by omega) (d + 1) H1 (n := low) (by omega)
   have hml : (rdigs low).length <= 4 := rdigs_len64 (by omega)
   obtain ⟨pv, H3, e2, f3, p2⟩ := rmul01_ok K d H2 m1 (hw.fr (Frame.trans hf1 f2)) (by omega) (by omega) (by omega)
   have f23 := Frame.trans f2 f3
   obtain ⟨sv, H4, e3, f4, p4, hnew⟩ := rsub_ok K d H3 (hrv1.fr f23) p2 h1 (by omega) (by omega)
   have f24 := Frame.trans f23 f4
   have hmod : R - low * b = R % b := by
    have := Nat.div_add_mod R b
    rw [hq, Nat.mul_comm] at this
    omega
   rw [hmod] at p4
   refine ⟨sv, H4, ?_, Frame.trans hf1 f24, ?_, p4, fun hin => ?_⟩
   ·simp only [f59_l3]
    rw [n_sub64 _ (by omega) (by omega), z_gtr, decide_eq_false hgi, z_cond, cond_false, n_conv32, hlm, st, e1, z_call, e2, z_call, e3, z_call, z_sub64 (by omega) (by omega)]
   ·rw [hq]; exact hw1.fr f24
   ·have h5 := hnew r hin
    have h6 := hw1.lt
    have h7 := f23.size
    omega
theorem rdiv_out (K : Nat) (d : Nat) {H0 : Heap} {va w v : SV} {xs : List Nat} {b : Nat} (ha : Arr H0 va (rl xs)) (hxs : RSmall xs) (hxl : xs.length < 1000000) (hw : IsR H0 w b) (hb : 0 < b) (hbl : (rdigs b).length < 900000) (hK : 3000000 < K) {r : Nat} (hroot : v.flat = true) : ∀ (n fuel : Nat) (H : Heap) (rv : SV) (qs : List Nat), n <= xs.length -> n < fuel -> Frame H0 H -> Wr H0.size H v r [] (rl (List.replicate n 0 ++ qs)) [] -> RSmall qs -> qs.length = xs.length - n -> rval qs = rval (xs.drop n) / b -> IsR H rv (rval (xs.drop n) % b) -> ¬ inRow rv r ->
  ∃ qv rv' H', slow.loop5 (f59_l1 slow K (runQ wk tab slow K (d + 3))) fuel va w v rv (.int .i64 ((n : Int) - 1)) H = some (.tuple [qv, rv'], H') /\ Frame H0 H' /\ IsR H' qv (rval xs / b) /\ IsR H' rv' (rval xs % b)
 | 0, fuel, H, rv, qs, hn, hf, hfr, hwr, hqs, hql, hqv, hrv, hnr => by
  obtain ⟨fuel, rfl⟩ : ∃ m, fuel = m + 1 := ⟨fuel - 1, by omega⟩
  rw [z_loop5]
  have h0 : ¬ (((0 : Nat) : Int) - 1 >= 0) := by omega
  simp only [List.replicate_zero, List.nil_append] at hwr
  rw [List.drop_zero] at hqv hrv
  obtain ⟨sl, h2, h3, _⟩ := rcut_ok K (d + 2) H (ds := qs) hwr.arr hqs (by omega) (by omega)
  rw [hqv] at h3
  refine ⟨sl, rv, H, ?_, hfr, h3, hrv⟩
  simp only [f59_l1, z_geq, decide_eq_false h0, z_cond, cond_false, h2, z_call, z_rest h3.good, z_rest hrv.good]
 | n + 1, fuel, H, rv, qs, hn, hf, hfr, hwr, hqs, hql, hqv, hrv, hnr => by
  obtain ⟨fuel, rfl⟩ : ∃ m, fuel = m + 1 := ⟨fuel - 1, by omega⟩
  rw [z_loop5]
  have h0 : ((n + 1 : Nat) : Int) - 1 >= 0 := by omega
  have e : (((n + 1 : Nat) : Int) - 1) = (n : Int) := by omega
  obtain ⟨x, hx⟩ : ∃ x, xs[n]? = some x := ⟨_, List.getElem?_eq_getElem (by omega)⟩
  have hxD : x < 65536 := hxs x (List.mem_of_getElem? hx)
  have hdx : xs.drop n = x :: xs.drop (n + 1) := List.drop_eq_getElem?_toList_append (l := xs) (i := n) ▸ by rw [hx]; rfl
  generalize hT : rval (xs.drop (n + 1)) = T at *
  obtain ⟨u, H1, hu, hou, hfu, _, _⟩ := z_lay1 (H := H) (lo := H.size) (Nat.le_refl _) (.int .u32 0) (x := u32 x) rfl
  have hrl : (rdigs (T % b)).length <= (rdigs b).length := rdigs_mono (Nat.le_of_lt (Nat.mod_lt _ hb))
  obtain ⟨u', H2, ha2, ho2, f2, hro2, hin2, _⟩ := hou.append hfu.size (hrv.fr hfu) (by_ := 4) (roomy_small (by simp; omega))
  have e1 : [u32 x] ++ rl (rdigs (T % b)) = rl (x :: rdigs (T % b)) := rfl
  rw [e1] at ho2
  have hRe : rval (x :: rdigs (T % b)) = x + D * (T % b) := by simp only [rval, rval_digs]
  have hsm : RSmall (x :: rdigs (T % b)) := fun q hq => by
   rcases List.mem_cons.1 hq with rfl | hq
   ·exact hxD
   ·exact rdigs_small _ q hq
  obtain ⟨sl, h3, h4, hin⟩ := rcut_ok K (d + 2) H2 (ds := x :: rdigs (T % b)) ho2.arr hsm (by simp; omega) (by simp; omega)
  rw [hRe] at h4
  have f12 : Frame H H2 := Fr.trans hfu f2
  have hrlt := hwr.lt
  have hnr2 : ¬ inRow sl r := fun hi => by
   have := Own.ge ho2 (hin r hi)
   omega
  have hR1 : x + D * (T % b) < 65536 * b := by
   have h5 := Nat.mod_lt T hb
   show x + 65536 * (T % b) < 65536 * b
   have := Nat.mul_le_mul_left 65536 (Nat.succ_le_of_lt h5)
   omega
  have hRlen : (rdigs (x + D * (T % b))).length <= (rdigs b).length + 1 := rdigs_len_le (by
   rw [Nat.pow_succ]
   have h6 := rdigs_lt b
   have : 65536 * b <= D ^ (rdigs b).length * D := by rw [Nat.mul_comm]; exact Nat.mul_le_mul_right _ (Nat.le_of_lt h6)
   omega)
  obtain ⟨rv', H3, h5, f3, w3, r3, n3⟩ := rdiv_in K (d + 1) H0.size rfl hw (by omega) hK h4 (Frame.trans hfr f12) (hwr.fr f12) (i := n) (by simp; omega) (by omega) (by omega) hb hnr2 (slow.loop5 (f59_l1 slow K (runQ wk tab slow K (d + 3))) fuel) 65536 0 65536 K H2 (by omega) (by omega) (by omega) (by omega) (by omega) hR1 (Fr.refl _ _)
  have hset : (List.replicate (n + 1) 0 ++ qs).set n ((x + D * (T % b)) / b) = List.replicate n 0 ++ ((x + D * (T % b)) / b :: qs) := by
   rw [List.set_append_left _ _ (by simp), List.replicate_succ', List.set_append_right _ _ (by simp)]
   simp
  rw [hset] at w3
  have hTd := Nat.div_add_mod T b
  have hval : rval (xs.drop n) = b * (D * (T / b)) + (x + D * (T % b)) := by
   rw [hdx, rval, hT]
   conv => lhs; rw [<- hTd]
   rw [Nat.mul_add, <- Nat.mul_assoc D b, Nat.mul_comm D b, Nat.mul_assoc b D]
   omega
  obtain ⟨qv, rv2, H4, h7, f7, q7, r7⟩ := rdiv_out K d ha hxs hxl hw hb hbl hK hroot n fuel H3 rv' ((x + D * (T % b)) / b :: qs) (by omega) (by omega) f3 w3 (fun q hq => by
   rcases List.mem_cons.1 hq with rfl | hq
   ·rw [Nat.div_lt_iff_lt_mul hb]; exact hR1
   ·exact hqs q hq) (by simp [hql]; omega) (by
   rw [hval, rval, hqv, Nat.mul_add_div hb]; omega) (by rw [hval, Nat.mul_add_mod]; exact r3) n3
  refine ⟨qv, rv2, H4, ?_, f7, q7, r7⟩
  simp only [f59_l1, z_geq, decide_eq_true h0, z_cond, cond_true]
  rw [e, (ha.fr hfr).load (rl_get hx), hu, ha2, h3, z_call, show (SV.int .u64 0) = u64 0 from rfl, show (SV.int .u64 65536) = u64 65536 from rfl, h5]
  exact h7
theorem rdiv_ok (K : Nat) (d : Nat) (H : Heap) {v w : SV} {a b : Nat} (hx : IsR H v a) (hy : IsR H w b) (hb : 0 < b) (hla : (rdigs a).length < 900000) (hlb : (rdigs b).length < 900000) (hK : 3000000 < K) :
  ∃ q r H', runQ wk tab slow K (d + 4) 59 [v, w] H = some (.tuple [q, r], H') /\ Frame H H' /\ IsR H' q (a / b) /\ IsR H' r (a % b) := by
 show ∃ q r H', f59 slow K (runQ wk tab slow K (d + 3)) v w H = _ /\ _
 simp only [f59, rlen hx]
 obtain ⟨u, H1, h1, w1, f1, ru, uf, _⟩ := z_makeW (H := H) (lo := H.size) (Nat.le_refl _) 4 (.int .u32 0) (rdigs a).length (by omega) (roomy_small (by omega)) .i64 .i64
 rw [rl_zeros] at w1
 rw [h1, z_sub64 (by omega) (by omega)]
 have := rdiv_out K d hx (rdigs_small a) (by omega) hy hb hlb hK uf (rdigs a).length K H1 (.slice nilSl) [] (Nat.le_refl _) (by omega) f1 (by simpa using w1) (fun q hq => by cases hq) (by simp) (by rw [List.drop_length]; simp [rval]) (by rw [List.drop_length]; simp only [rval, Nat.zero_mod]; exact IsR.zero (Arr.nil _)) (not_inRow_nil _)
 rw [rval_digs] at this
 exact this
end Go.Sh.Of
namespace Go.Sh.Of
open Go
theorem rsm_loop (C : CallC) (K : Nat) (H : Heap) {v : SV} {ds : List Nat} (hv : Arr H v (rl ds)) (hs : RSmall ds) (hl : ds.length <= 4) : ∀ (n fuel : Nat), n <= ds.length -> n < fuel ->
  slow.loop3 (f63_l2 slow K C) fuel v (u64 (rval (ds.drop n))) (.int .i64 ((n : Int) - 1)) H = some (.tuple [u64 (rval ds), .bool true], H)
 | 0, fuel, hn, hf => by
  obtain ⟨fuel, rfl⟩ : ∃ m, fuel = m + 1 := ⟨fuel - 1, by omega⟩
  rw [z_loop3]
  have h0 : ¬ (((0 : Nat) : Int) - 1 >= 0) := by omega
  rw [List.drop_zero]
  simp only [f63_l2, z_geq, decide_eq_false h0, z_cond, cond_false, z_rest_int]
 | n + 1, fuel, hn, hf => by
  obtain ⟨fuel, rfl⟩ : ∃ m, fuel = m + 1 := ⟨fuel - 1, by omega⟩
  rw [z_loop3]
  have h0 : ((n + 1 : Nat) : Int) - 1 >= 0 := by omega
  have e : (((n + 1 : Nat) : Int) - 1) = (n : Int) := by omega
  obtain ⟨x, hx⟩ : ∃ x, ds[n]? = some x := ⟨_, List.getElem?_eq_getElem (by omega)⟩
  have hxD : x < 65536 := hs x (List.mem_of_getElem? hx)
  have hdx : ds.drop n = x :: ds.drop (n + 1) := List.drop_eq_getElem?_toList_append (l := ds) (i := n) ▸ by rw [hx]; rfl
  have hsd : RSmall (ds.drop (n + 1)) := fun q hq => hs q (List.mem_of_mem_drop hq)
  have hlt := rval_lt hsd
  have hle : D ^ (ds.drop (n + 1)).length <= D ^ 3 := Nat.pow_le_pow_right (by decide) (by simp; omega)
  have h3 : D ^ 3 = 281474976710656 := by decide
  have hR : rval (ds.drop n) = rval (ds.drop (n + 1)) * 65536 + x := by
   rw [hdx, rval, Nat.mul_comm (rval _) 65536, Nat.add_comm]; rfl
  have ih := rsm_loop C K H hv hs hl n fuel (by omega) (by omega)
  rw [hR] at ih
  simp only [f63_l2, z_geq, decide_eq_true h0, z_cond, cond_true]
  rw [show (SV.int .u64 65536) = u64 65536 from rfl, n_mul64 _ (by omega), e, hv.load (rl_get hx), n_conv64 _ .u32 x (by omega), n_add64 _ (by omega), z_sub64 (by omega) (by omega)]
  exact ih
theorem rsm_ok (K : Nat) (d : Nat) (H : Heap) {v : SV} {n : Nat} (hv : IsR H v n) (hl : (rdigs n).length <= 4) (hK : 10 < K) :
  runQ wk tab slow K (d + 1) 63 [v] H = some (.tuple [u64 n, .bool true], H) := by
 show f63 slow K (runQ wk tab slow K d) v H = _
 have h4 : ¬ ((rdigs n).length > 4) := by omega
 simp only [f63, rlen hv]
 rw [show (SV.int .i64 4) = i64 4 from rfl, n_gtr, decide_eq_false h4, z_cond, cond_false, z_sub64 (by omega) (by omega)]
 have := rsm_loop (runQ wk tab slow K d) K H hv (rdigs_small n) hl (rdigs n).length K (Nat.le_refl _) (by omega)
 rw [List.drop_length, rval_digs] at this
 exact this
theorem z_str1 {H : Heap} {v : SV} {d : Nat} (h : Arr H v [u8 (48 + d)]) (hd : d < 10) (k : K1) : slow.str v H k = k (.str [chr d]) := by
 obtain ⟨s, rfl, e1, e2⟩ := h.elems
 have hb : bytesOf [u8 (48 + d)] = some [chr d] := bytes_chrs [d] (by simpa using hd)
 show ((opR .str [.slice s] H).bind _) = _
 simp only [opR, e2, Option.bind_some, hb, Option.map_some]
theorem rtext_in (C : CallC) (K : Nat) {m : Nat} (q : SV) (k7 : SV -> SV -> Heap -> Rs) (N : Nat) (hN : N < 1000000000) : ∀ (j i x fuel : Nat) (H : Heap) (pre : List Nat), i + j = 4 -> j < fuel -> x < 10 ^ j -> IsR H q m -> pre.length + (decLE (x + 10 ^ j * m)).length <= N ->
  ∃ H' pre', slow.loop4 (f32_l4 slow K C k7) fuel (.str (pre.reverse.map chr)) q (u64 x) (i64 i) H = k7 q (.str (pre'.reverse.map chr)) H' /\ Frame H H' /\ pre' ++ decLE m = pre ++ decLE (x + 10 ^ j * m)
 | 0, i, x, fuel, H, pre, hij, hf, hx, hq, hlen => by
  obtain ⟨fuel, rfl⟩ : ∃ m, fuel = m + 1 := ⟨fuel - 1, by omega⟩
  have hx0 : x = 0 := by simpa using hx
  subst hx0
  have h4 : ¬ (i < 4) := by omega
  refine ⟨H, pre, ?_, Fr.refl _ _, by simp⟩
  rw [z_loop4]
  simp only [f32_l4]
  rw [show (SV.int .i64 4) = i64 4 from rfl, n_lss, decide_eq_false h4, z_guard, cond_false]
  simp only [f32_j5, z_cond, cond_false]
 | j + 1, i, x, fuel, H, pre, hij, hf, hx, hq, hlen => by
  obtain ⟨fuel, rfl⟩ : ∃ m, fuel = m + 1 := ⟨fuel - 1, by omega⟩
  have h4 : i < 4 := by omega
  have hxs : x < 10000 := Nat.lt_of_lt_of_le hx (Nat.pow_le_pow_right (n := 10) (by decide) (show j + 1 <= 4 by omega))
  by_cases h0 : m = 0 /\ x = 0
  ·obtain ⟨rfl, rfl⟩ := h0
   refine ⟨H, pre, ?_, Fr.refl _ _, by simp⟩
   have hl : ¬ ((rdigs 0).length > 0) := by rw [rdigs_zero]; simp
   have hz : ¬ (0 > 0) := by omega
   rw [z_loop4]
   simp only [f32_l4]
   rw [show (SV.int .i64 4) = i64 4 from rfl, n_lss, decide_eq_true h4, z_guard, cond_true, rlen hq, show (SV.int .i64 0) = i64 0 from rfl, n_gtr, decide_eq_false hl, z_guard, cond_false, show (SV.int .u64 0) = u64 0 from rfl, n_gtr, decide_eq_false hz]
   simp only [f32_j5, z_cond, cond_false]
  ·have hP : x + 10 ^ (j + 1) * m = x + 10 * (10 ^ j * m) := by rw [Nat.pow_succ, Nat.mul_comm (10 ^ j) 10, Nat.mul_assoc]
   have hne : x + 10 ^ (j + 1) * m ≠ 0 := by
    intro e
    have h1 : x = 0 := by omega
    have h2 : 10 ^ (j + 1) * m = 0 := by omega
    rcases Nat.mul_eq_zero.1 h2 with h3 | h3
    ·exact absurd h3 (Nat.ne_of_gt (Nat.pow_pos (by decide)))
    ·exact h0 ⟨h3, h1⟩
   have hdl : decLE (x + 10 ^ (j + 1) * m) = x % 10 :: decLE (x / 10 + 10 ^ j * m) := by
    rw [decLE_pos hne, hP]
    rw [show (x + 10 * (10 ^ j * m)) % 10 = x % 10 by omega, show (x + 10 * (10 ^ j * m)) / 10 = x / 10 + 10 ^ j * m by omega]
   rw [hdl] at hlen
   have hd10 : x % 10 < 10 := Nat.mod_lt _ (by decide)
   obtain ⟨u, H1, hu, hou, hfu, _, _⟩ := z_lay1 (H := H) (lo := H.size) (Nat.le_refl _) (.int .u8 0) (x := u8 (48 + x % 10)) rfl
   have hpx : x / 10 < 10 ^ j := by
    rw [Nat.div_lt_iff_lt_mul (by decide), <- Nat.pow_succ]; exact hx
   rw [List.length_cons] at hlen
   obtain ⟨H2, pre', h5, f2, hp⟩ := rtext_in C K q k7 N hN j (i + 1) (x / 10) fuel H1 (pre ++ [x % 10]) (by omega) (by omega) hpx (hq.fr hfu) (by simp; omega)
   refine ⟨H2, pre', ?_, Frame.trans hfu f2, by rw [hp, hdl]; simp⟩
   have hs : [chr (x % 10)] ++ pre.reverse.map chr = (pre ++ [x % 10]).reverse.map chr := by simp
   have hm8 : (48 + x % 10) % 256 = 48 + x % 10 := Nat.mod_eq_of_lt (by omega)
   have hj : f32_j5 slow K C k7 (slow.loop4 (f32_l4 slow K C k7) fuel) (.str (pre.reverse.map chr)) q (u64 x) (i64 i) (.bool true) H = k7 q (.str (pre'.reverse.map chr)) H2 := by
    simp only [f32_j5, z_cond, cond_true]
    rw [show (SV.int .u64 10) = u64 10 from rfl, n_rem _ .u64 _ (by decide), show (SV.int .u64 48) = u64 48 from rfl, n_add64 _ (by omega), n_conv8, hm8, hu, z_str1 hou.arr hd10, z_sadd _ (by simp; omega), n_quo64 _ _ (by decide) (by omega), show (SV.int .i64 1) = i64 1 from rfl, n_addi _ (by omega), hs]
    exact h5
   rw [z_loop4]
   simp only [f32_l4]
   rw [show (SV.int .i64 4) = i64 4 from rfl, n_lss, decide_eq_true h4, z_guard, cond_true, rlen hq, show (SV.int .i64 0) = i64 0 from rfl, n_gtr]
   by_cases hm : (rdigs m).length > 0
   ·rw [decide_eq_true hm, z_guard, cond_true]
    exact hj
   ·have hx0 : x > 0 := by
     have : rdigs m = [] := List.length_eq_zero_iff.1 (by omega)
     have := rdigs_nil.1 this
     omega
    rw [decide_eq_false hm, z_guard, cond_false, show (SV.int .u64 0) = u64 0 from rfl, n_gtr, decide_eq_true hx0]
    exact hj
theorem rtext_out (K : Nat) (d : Nat) (N : Nat) (hN : N < 1000000000) (hK : 3000000 < K) {n : Nat} (hdec : (decLE n).length <= N) : ∀ (m fuel : Nat) (H : Heap) (v : SV) (pre : List Nat), (decLE m).length < fuel -> IsR H v m -> (rdigs m).length < 900000 -> pre ++ decLE m = decLE n ->
  ∃ H', slow.loop2 (f32_l2 slow K (runQ wk tab slow K (d + 4))) fuel v (.str (pre.reverse.map chr)) H = some (.str ((decLE n).reverse.map chr), H') /\ Frame H H' := by
 intro m
 induction m using Nat.strongRecOn with
 | ind m ih =>
  intro fuel H v pre hf hv hl hpre
  obtain ⟨fuel, rfl⟩ : ∃ m, fuel = m + 1 := ⟨fuel - 1, by omega⟩
  rw [z_loop2]
  by_cases h0 : m = 0
  ·subst h0
   rw [decLE_zero, List.append_nil] at hpre
   subst hpre
   have hz : ¬ ((rdigs 0).length > 0) := by rw [rdigs_zero]; simp
   refine ⟨H, ?_, Fr.refl _ _⟩
   simp only [f32_l2, rlen hv]
   rw [show (SV.int .i64 0) = i64 0 from rfl, n_gtr, decide_eq_false hz, z_cond, cond_false, z_rest_str]
  ·have hpos : (rdigs m).length > 0 := List.length_pos_iff.2 fun e => h0 (rdigs_nil.1 e)
   obtain ⟨tv, H1, e1, f1, t1⟩ := rof_ok K (by omega) (d + 3) H (n := 10000) (by decide)
   have htl : (rdigs 10000).length <= 4 := rdigs_len64 (by decide)
   obtain ⟨qv, rv, H2, e2, f2, q2, r2⟩ := rdiv_ok K d H1 (hv.fr f1) t1 (by decide) hl (by omega) hK
   have hmod : m % 10000 < 10000 := Nat.mod_lt _ (by decide)
   have hrl : (rdigs (m % 10000)).length <= 4 := rdigs_len64 (by omega)
   have e3 := rsm_ok K (d + 3) H2 r2 hrl (by omega)
   have e10 : m % 10000 + 10 ^ 4 * (m / 10000) = m := Nat.mod_add_div m 10000
   obtain ⟨H3, pre', h5, f3, hp⟩ := rtext_in (runQ wk tab slow K (d + 4)) K qv (slow.loop2 (f32_l2 slow K (runQ wk tab slow K (d + 4))) fuel) N hN 4 0 (m % 10000) K H2 pre rfl (by omega) hmod q2 (by
    rw [e10, <- List.length_append, hpre]; exact hdec)
   rw [e10, hpre] at hp
   have hmlt : m / 10000 < m := Nat.div_lt_self (Nat.pos_of_ne_zero h0) (by decide)
   have hq : (decLE (m / 10000)).length < fuel := by
    have h1 := decLE_mono (show m / 10000 <= m / 10 by omega)
    rw [decLE_pos h0, List.length_cons] at hf
    omega
   have hql := rdigs_mono (Nat.le_of_lt hmlt)
   obtain ⟨H4, h6, f4⟩ := ih (m / 10000) hmlt fuel H3 qv pre' hq (q2.fr f3) (by omega) hp
   refine ⟨H4, ?_, Frame.trans f1 (Frame.trans f2 (Frame.trans f3 f4))⟩
   simp only [f32_l2, rlen hv]
   rw [show (SV.int .i64 0) = i64 0 from rfl, n_gtr, decide_eq_true hpos, z_cond, cond_true, show (SV.int .u64 10000) = u64 10000 from rfl, e1, z_call, e2, z_call, z_ext0, z_ext1, e3, z_call, z_ext0, z_ext1, h5]
   exact h6
theorem rtext_ok (K : Nat) (d : Nat) (H : Heap) {v : SV} {n : Nat} (hv : IsR H v n) (hK : 3000000 < K) (hd : (decLE n).length < 3000000) (hl : (rdigs n).length < 900000) :
  ∃ H', runQ wk tab slow K (d + 5) 32 [v] H = some (.str (dec n), H') /\ Frame H H' := by
 show ∃ H', f32 slow K (runQ wk tab slow K (d + 4)) v H = _ /\ _
 simp only [f32, rlen hv]
 rw [show (SV.int .i64 0) = i64 0 from rfl, n_eql]
 by_cases h0 : n = 0
 ·subst h0
  refine ⟨H, ?_, Fr.refl _ _⟩
  rw [rdigs_zero]
  simp only [List.length_nil, decide_true, z_cond, cond_true]
  rfl
 ·have hne : ¬ ((rdigs n).length = 0) := fun e => h0 (rdigs_nil.1 (List.length_eq_zero_iff.1 e))
  rw [decide_eq_false hne, z_cond, cond_false]
  obtain ⟨H1, h1, f1⟩ := rtext_out K d (decLE n).length (by omega) hK (Nat.le_refl _) n K H v [] (by omega) hv hl (by simp)
  refine ⟨H1, ?_, f1⟩
  have e : dec n = (decLE n).reverse.map chr := by rw [dec, if_neg h0]
  rw [e]
  exact h1
end Go.Sh.Of
namespace Go.Sh.Of
open Go
end Go.Sh.Of
namespace Go.Sh.Of
open Go
theorem big_dec {z : Int} (h : z.natAbs < 2 ^ 4096) : (decLE z.natAbs).length <= 4096 := dec_bits h
theorem pow_D {m k : Nat} (h : 16 * m = k) : D ^ m = 2 ^ k := by
 subst h
 rw [Nat.pow_mul]
 rfl
theorem big_rd {n : Nat} (h : n < 2 ^ 4096) : (rdigs n).length <= 256 := rdigs_len_le (k := 256) (by
 rw [pow_D (k := 4096) rfl]; exact h)
end Go.Sh.Of
namespace Go.Sh.Of
open Go
end Go.Sh.Of
namespace Go.Sh.Of
open Go
theorem rval_drop (xs : List Nat) (i : Nat) : rval (xs.drop i) = xs.getD i 0 + D * rval (xs.drop (i + 1)) := by
 by_cases h : i < xs.length
 ·have e : xs.drop i = xs[i] :: xs.drop (i + 1) := List.drop_eq_getElem_cons h
  rw [e, rval]
  simp [List.getD, h]
 ·rw [List.drop_of_length_le (by omega), List.drop_of_length_le (by omega)]
  simp [List.getD, h, rval]
theorem rget_small {xs : List Nat} (h : RSmall xs) (i : Nat) : xs.getD i 0 < 65536 := by
 by_cases hi : i < xs.length
 ·have := h xs[i] (List.getElem_mem hi)
  simp only [List.getD, List.getElem?_eq_getElem hi, Option.getD_some]
  exact this
 ·simp only [List.getD, List.getElem?_eq_none (show xs.length <= i by omega), Option.getD_none]
  omega
theorem radd_loop (K : Nat) (d : Nat) {H0 : Heap} {v w : SV} {xs ys : List Nat} (hv : Arr H0 v (rl xs)) (hw : Arr H0 w (rl ys)) (hxs : RSmall xs) (hys : RSmall ys) (N : Nat) (hN : N < 2000000) (hxl : xs.length <= N) (hyl : ys.length <= N) (hK : N + 2 < K) {S : Nat} : ∀ (m i fuel c : Nat) (H : Heap) (o : SV) (res : List Nat), i + m = N + 1 -> m < fuel -> c <= 1 -> (m = 0 -> c = 0) -> Frame H0 H -> Own H0.size H o (rl res) -> res.length = i -> RSmall res -> rval res + D ^ i * (c + rval (xs.drop i) + rval (ys.drop i)) = S ->
  ∃ r H', slow.loop5 (f54_l1 slow K (runQ wk tab slow K (d + 1))) fuel v w o (u32 c) (i64 i) H = some (r, H') /\ Frame H0 H' /\ IsR H' r S := by
 intro m
 induction m with
 | zero =>
  intro i fuel c H o res him hf hc hc0 hfr ho hrl hrs hS
  obtain ⟨fuel, rfl⟩ : ∃ m, fuel = m + 1 := ⟨fuel - 1, by omega⟩
  have hx : ¬ i < xs.length := by omega
  have hy : ¬ i < ys.length := by omega
  have hcz := hc0 rfl
  subst hcz
  have h00 : ¬ (0 : Nat) > 0 := by omega
  rw [List.drop_of_length_le (by omega), List.drop_of_length_le (by omega)] at hS
  simp only [rval, Nat.add_zero, Nat.mul_zero] at hS
  obtain ⟨s, h2, hr, _⟩ := rcut_ok K d H (ds := res) ho.arr hrs (by omega) (by omega)
  rw [hS] at hr
  refine ⟨_, H, ?_, hfr, hr⟩
  rw [z_loop5]
  simp only [f54_l1, rlen (hv.fr hfr), rlen (hw.fr hfr), n_lss, decide_eq_false hx, decide_eq_false hy, z_guard, cond_false]
  rw [show (SV.int .u32 0) = u32 0 from rfl, n_gtr, decide_eq_false h00]
  simp only [f54_j2, z_cond, cond_false, h2, z_call]
  rw [z_rest (Arr.good hr)]
 | succ m ih =>
  intro i fuel c H o res him hf hc hc0 hfr ho hrl hrs hS
  obtain ⟨fuel, rfl⟩ : ∃ m, fuel = m + 1 := ⟨fuel - 1, by omega⟩
  have hvH := hv.fr hfr
  have hwH := hw.fr hfr
  have hxi := rget_small hxs i
  have hyi := rget_small hys i
  by_cases hgo : i < xs.length \/ i < ys.length \/ c > 0
  ·
   generalize hs : c + xs.getD i 0 + ys.getD i 0 = s
   have hs1 : s <= 131071 := by omega
   obtain ⟨o', H1, hp, ho1, f1, _⟩ := push1 ho hfr.size (.int .u32 0) (x := u32 (s % 65536)) rfl (by_ := 4) (roomy_small (by simp; omega))
   have e1 : rl res ++ [u32 (s % 65536)] = rl (res ++ [s % 65536]) := by simp [rl]
   rw [e1] at ho1
   have hnext : (m = 0 -> s / 65536 = 0) := fun hm => by
    have hiN : i = N := by omega
    have hx : ¬ i < xs.length := by omega
    have hy : ¬ i < ys.length := by omega
    have e1 : xs.getD i 0 = 0 := by simp [List.getD, hx]
    have e2 : ys.getD i 0 = 0 := by simp [List.getD, hy]
    omega
   obtain ⟨r, H2, h2, f2, hr⟩ := ih (i + 1) fuel (s / 65536) H1 o' (res ++ [s % 65536]) (by omega) (by omega) (by omega) hnext (Fr.trans hfr f1) ho1 (by simp [hrl]) (fun x hx => by
    rcases List.mem_append.1 hx with hx | hx
    ·exact hrs x hx
    ·rw [List.mem_singleton.1 hx]; exact Nat.mod_lt _ (by decide)) (by
    rw [rval_append, hrl, <- hS, rval_drop xs i, rval_drop ys i, Nat.pow_succ]
    simp only [rval, Nat.mul_zero, Nat.add_zero]
    have hdm := Nat.mod_add_div s 65536
    rw [Nat.add_assoc, Nat.mul_assoc, <- Nat.mul_add]
    congr 2
    show s % 65536 + D * (s / 65536 + rval (xs.drop (i + 1)) + rval (ys.drop (i + 1))) = _
    rw [show c + (xs.getD i 0 + D * rval (xs.drop (i + 1))) + (ys.getD i 0 + D * rval (ys.drop (i + 1))) = s + (D * rval (xs.drop (i + 1)) + D * rval (ys.drop (i + 1))) by omega, Nat.mul_add, Nat.mul_add]
    have hD : D * (s / 65536) = 65536 * (s / 65536) := rfl
    omega)
   have hj5 : f54_j5 slow K (runQ wk tab slow K (d + 1)) (slow.loop5 (f54_l1 slow K (runQ wk tab slow K (d + 1))) fuel) v w o (i64 i) (u32 s) H = some (r, H2) := by
    simp only [f54_j5]
    rw [show (SV.int .u32 65536) = u32 65536 from rfl, n_rem _ .u32 s (by decide), hp, n_quo32 _ _ (by decide) (by omega), show (SV.int .i64 1) = i64 1 from rfl, n_addi _ (by omega)]
    exact h2
   have hj4 : f54_j4 slow K (runQ wk tab slow K (d + 1)) (slow.loop5 (f54_l1 slow K (runQ wk tab slow K (d + 1))) fuel) v w o (i64 i) (u32 (c + xs.getD i 0)) H = some (r, H2) := by
    simp only [f54_j4, rlen hwH, n_lss]
    by_cases hy : i < ys.length
    ·have hg : ys[i]? = some (ys.getD i 0) := by simp [List.getD, hy]
     rw [decide_eq_true hy, z_cond, cond_true, hwH.load (rl_get hg), n_add32, Nat.mod_eq_of_lt (by omega), hs]
     exact hj5
    ·have e2 : ys.getD i 0 = 0 := by simp [List.getD, hy]
     rw [decide_eq_false hy, z_cond, cond_false, show c + xs.getD i 0 = s by omega]
     exact hj5
   have hj2 : f54_j2 slow K (runQ wk tab slow K (d + 1)) (slow.loop5 (f54_l1 slow K (runQ wk tab slow K (d + 1))) fuel) v w o (u32 c) (i64 i) (.bool true) H = some (r, H2) := by
    simp only [f54_j2, z_cond, cond_true, rlen hvH, n_lss]
    by_cases hx : i < xs.length
    ·have hg : xs[i]? = some (xs.getD i 0) := by simp [List.getD, hx]
     rw [decide_eq_true hx, cond_true, hvH.load (rl_get hg), n_add32, Nat.mod_eq_of_lt (by omega)]
     exact hj4
    ·have e2 : xs.getD i 0 = 0 := by simp [List.getD, hx]
     rw [e2, Nat.add_zero] at hj4
     rw [decide_eq_false hx, cond_false]
     exact hj4
   refine ⟨r, H2, ?_, f2, hr⟩
   rw [z_loop5]
   simp only [f54_l1, rlen hvH, rlen hwH, n_lss, z_guard]
   by_cases hx : i < xs.length
   ·rw [decide_eq_true hx, cond_true, hj2]
   ·rw [decide_eq_false hx, cond_false]
    by_cases hy : i < ys.length
    ·rw [decide_eq_true hy, cond_true, hj2]
    ·have hcp : c > 0 := by omega
     rw [decide_eq_false hy, cond_false, show (SV.int .u32 0) = u32 0 from rfl, n_gtr, decide_eq_true hcp, hj2]
  ·have hx : ¬ i < xs.length := fun h => hgo (.inl h)
   have hy : ¬ i < ys.length := fun h => hgo (.inr (.inl h))
   have hcz : c = 0 := by
    have : ¬ c > 0 := fun h => hgo (.inr (.inr h))
    omega
   subst hcz
   have h00 : ¬ (0 : Nat) > 0 := by omega
   rw [List.drop_of_length_le (by omega), List.drop_of_length_le (by omega)] at hS
   simp only [rval, Nat.add_zero, Nat.mul_zero] at hS
   obtain ⟨s, h2, hr, _⟩ := rcut_ok K d H (ds := res) ho.arr hrs (by omega) (by omega)
   rw [hS] at hr
   refine ⟨_, H, ?_, hfr, hr⟩
   rw [z_loop5]
   simp only [f54_l1, rlen hvH, rlen hwH, n_lss, decide_eq_false hx, decide_eq_false hy, z_guard, cond_false]
   rw [show (SV.int .u32 0) = u32 0 from rfl, n_gtr, decide_eq_false h00]
   simp only [f54_j2, z_cond, cond_false, h2, z_call]
   rw [z_rest (Arr.good hr)]
theorem radd_ok (K : Nat) (d : Nat) (H : Heap) {v w : SV} {a b : Nat} (hx : IsR H v a) (hy : IsR H w b) (hla : (rdigs a).length < 900000) (hlb : (rdigs b).length < 900000) (hK : 3000000 < K) :
  ∃ r H', runQ wk tab slow K (d + 2) 54 [v, w] H = some (r, H') /\ Frame H H' /\ IsR H' r (a + b) := by
 show ∃ r H', f54 slow K (runQ wk tab slow K (d + 1)) v w H = _ /\ _
 exact radd_loop K d (H0 := H) hx hy (rdigs_small a) (rdigs_small b) ((rdigs a).length + (rdigs b).length) (by omega) (by omega) (by omega) (by omega) ((rdigs a).length + (rdigs b).length + 1) 0 K 0 H (.slice nilSl) [] (by omega) (by omega) (by omega) (by omega) (Fr.refl _ _) (Own.nil _ _) rfl (fun x hx => by cases hx) (by simp [rval, rval_digs])
theorem bl_half {d : Nat} (h : d > 0) : bl d = bl (d / 2) + 1 := by
 by_cases h1 : d = 1
 ·subst h1; rfl
 ·have h2 : bl d = 1 + bl (d / 2) := bl_shift (k := 1) (show 2 <= d by omega)
  omega
theorem rbits_loop (C : CallC) (K : Nat) (H : Heap) : ∀ (d n fuel : Nat), d < fuel -> n + d < 9000000000000000000 -> d < 4294967296 -> slow.loop2 (f81_l2 slow K C) fuel (i64 n) (u32 d) H = some (i64 (n + bl d), H) := by
 intro d
 induction d using Nat.strongRecOn with
 | ind d ih =>
  intro n fuel hf hn hd
  obtain ⟨fuel, rfl⟩ : ∃ m, fuel = m + 1 := ⟨fuel - 1, by omega⟩
  rw [z_loop2]
  simp only [f81_l2]
  rw [show (SV.int .u32 0) = u32 0 from rfl, n_gtr, z_cond]
  by_cases h : d > 0
  ·rw [decide_eq_true h, cond_true, show (SV.int .i64 1) = i64 1 from rfl, n_addi _ (by omega), show (SV.int .u32 2) = u32 2 from rfl, n_quo32 _ _ (by decide) hd, ih (d / 2) (by omega) (n + 1) fuel (by omega) (by omega) (by omega), bl_half h]
   rw [show n + 1 + bl (d / 2) = n + (bl (d / 2) + 1) by omega]
  ·have h0 : d = 0 := by omega
   subst h0
   rw [decide_eq_false h, cond_false, z_rest_int]
   rfl
theorem rbl_digs {n : Nat} (h : n ≠ 0) : ∃ d, (rdigs n).getLast? = some d /\ d ≠ 0 /\ d < D /\ bl n = 16 * ((rdigs n).length - 1) + bl d := by
 induction n using Nat.strongRecOn with
 | ind n ih =>
  rw [rdigs_pos h]
  by_cases h0 : n / D = 0
  ·rw [h0, rdigs_zero]
   have hlt : n < D := (Nat.div_eq_zero_iff.1 h0).resolve_left (by decide)
   refine ⟨n % D, rfl, ?_, Nat.mod_lt _ (by decide), ?_⟩
   ·rw [Nat.mod_eq_of_lt hlt]; exact h
   ·rw [Nat.mod_eq_of_lt hlt]; simp
  ·obtain ⟨d, h1, h2, h3, h4⟩ := ih (n / D) (Nat.div_lt_self (Nat.pos_of_ne_zero h) (by decide)) h0
   have hne : rdigs (n / D) ≠ [] := fun e => by rw [e] at h1; cases h1
   refine ⟨d, ?_, h2, h3, ?_⟩
   ·cases hd : rdigs (n / D) with
    | nil => exact absurd hd hne
    | cons x l => rw [List.getLast?_cons_cons, <- hd]; exact h1
   ·have hge : 2 ^ 16 <= n := by
     have : D <= n := Nat.le_of_not_lt fun hlt => h0 (Nat.div_eq_of_lt hlt)
     exact this
    rw [bl_shift hge]
    show 16 + bl (n / D) = _
    rw [h4]
    have : 0 < (rdigs (n / D)).length := List.length_pos_iff.2 hne
    simp only [List.length_cons]
    omega
theorem rbits_ok (K : Nat) (hK : 100000 < K) (d : Nat) (H : Heap) {v : SV} {n : Nat} (hv : IsR H v n) (hb : (rdigs n).length < 10000000) : runQ wk tab slow K (d + 1) 81 [v] H = some (i64 (bl n), H) := by
 show f81 slow K (runQ wk tab slow K d) v H = _
 by_cases h0 : n = 0
 ·subst h0
  rw [IsR, rdigs_zero] at hv
  simp only [f81, rlen hv, z_eql, z_cond]
  rfl
 ·obtain ⟨x, h1, h2, h3, h4⟩ := rbl_digs h0
  have h3' : x < 65536 := h3
  have hlen : 0 < (rdigs n).length := by
   cases hd : rdigs n with
   | nil => rw [hd] at h1; cases h1
   | cons _ _ => simp
  have hx : (rdigs n)[(rdigs n).length - 1]? = some x := by rw [<- List.getLast?_eq_getElem?]; exact h1
  have hne : (((rdigs n).length : Int) == 0) = false := beq_eq_false_iff_ne.2 (by omega)
  have ha : Arr H v (rl (rdigs n)) := hv
  simp only [f81, rlen ha, z_eql, hne, z_cond, cond_false]
  rw [show (SV.int .i64 1) = i64 1 from rfl, n_subi _ (by omega) (by omega), show (SV.int .i64 16) = i64 16 from rfl, n_muli _ (by omega), n_subi _ (by omega) (by omega)]
  rw [ha.load (rl_get hx), rbits_loop _ K H x _ K (by omega) (by omega) (by omega), h4]
theorem rlong_ok (K : Nat) (hK : 100000 < K) (d : Nat) (H : Heap) {v : SV} {n : Nat} (hv : IsR H v n) (hb : (rdigs n).length < 10000000) : runQ wk tab slow K (d + 2) 57 [v] H = some (.bool (!decide (n < 2 ^ 4096)), H) := by
 have h1 := rbits_ok K hK d H hv hb
 show f57 slow K (runQ wk tab slow K (d + 1)) v H = _
 simp only [f57, h1, z_call]
 rw [show (SV.int .i64 4096) = i64 4096 from rfl, n_gtr, z_rest_bool]
 by_cases h : n < 2 ^ 4096
 ·have hn : ¬ bl n > 4096 := Nat.not_lt.2 ((bl_le (k := 4096)).2 h)
  rw [decide_eq_false hn, decide_eq_true h]
  rfl
 ·have hn : bl n > 4096 := Nat.lt_of_not_le fun hle => h ((bl_le (k := 4096)).1 hle)
  rw [decide_eq_true hn, decide_eq_false h]
  rfl
theorem rdig_loop (C : CallC) (K : Nat) (H : Heap) {s : List UInt8} (hl : s.length < 9223372036854775808) : ∀ (rest : List UInt8) (i fuel : Nat), s.drop i = rest -> rest.length < fuel ->
  slow.loop2 (f21_l3 slow K C) fuel (.str s) (i64 i) H = some (.bool (rest.all isDig), H)
 | [], i, fuel, hd, hf => by
  obtain ⟨fuel, rfl⟩ : ∃ m, fuel = m + 1 := ⟨fuel - 1, by omega⟩
  have hi : ¬ i < s.length := by have := List.drop_eq_nil_iff.1 hd; omega
  rw [z_loop2]
  simp only [f21_l3, z_slen, n_lss, decide_eq_false hi, z_cond, cond_false, List.all_nil]
 | c :: rest, i, fuel, hd, hf => by
  obtain ⟨fuel, rfl⟩ : ∃ m, fuel = m + 1 := ⟨fuel - 1, by omega⟩
  have hc : s[i]? = some c := by
   have := congrArg List.head? hd
   rwa [List.head?_drop, List.head?_cons] at this
  have hi : i < s.length := (List.getElem?_eq_some_iff.1 hc).1
  have hd' : s.drop (i + 1) = rest := by rw [<- List.drop_drop, hd]; rfl
  rw [z_loop2]
  simp only [f21_l3, z_slen, n_lss, decide_eq_true hi, z_cond, cond_true, z_stridx _ hc]
  rw [show (SV.int .u8 48) = u8 48 from rfl, show (SV.int .u8 57) = u8 57 from rfl]
  simp only [n_lss, n_gtr, z_guard]
  rw [List.all_cons]
  by_cases h1 : c.toNat < 48
  ·have hn : isDig c = false := by simp [isDig]; omega
   rw [decide_eq_true h1, cond_true, hn]
   simp only [f21_j5, z_cond, cond_true, Bool.false_and]
  ·rw [decide_eq_false h1, cond_false]
   by_cases h2 : c.toNat > 57
   ·have hn : isDig c = false := by simp [isDig]; omega
    rw [decide_eq_true h2, hn]
    simp only [f21_j5, z_cond, cond_true, Bool.false_and]
   ·have hy : isDig c = true := isDig_iff.2 ⟨by omega, by omega⟩
    rw [decide_eq_false h2, hy]
    simp only [f21_j5, z_cond, cond_false, Bool.true_and]
    rw [show (SV.int .i64 1) = i64 1 from rfl, n_addi _ (by omega)]
    exact rdig_loop C K H hl rest (i + 1) fuel hd' (by simp at hf; omega)
theorem rdigits_ok (K : Nat) (d : Nat) (H : Heap) {s : List UInt8} (hl : s.length < 9223372036854775808) (hsK : s.length < K) : runQ wk tab slow K (d + 1) 21 [.str s] H = some (.bool (digitsB s), H) := by
 show f21 slow K (runQ wk tab slow K d) (.str s) H = _
 by_cases h0 : s = []
 ·subst h0; rfl
 ·have hem : s.isEmpty = false := by cases s <;> simp_all
  have hz : ((s.length : Int) == 0) = false := beq_eq_false_iff_ne.2 (by have := List.length_pos_iff.2 h0; omega)
  simp only [f21, z_slen, z_eql, hz, z_guard, cond_false]
  rw [show (SV.int .i64 1) = i64 1 from rfl, n_gtr]
  by_cases h1 : s.length > 1
  ·obtain ⟨c, hc⟩ : ∃ c, s[0]? = some c := ⟨_, List.getElem?_eq_getElem (by omega)⟩
   have hst : ∀ k, slow.stridx (.str s) (.int .i64 0) k = k (u8 c.toNat) := fun k => z_stridx (n := 0) k hc .i64
   have hhd : s.head? = some c := by rw [<- hc]; cases s <;> rfl
   rw [decide_eq_true h1, z_guard, cond_true, hst, show (SV.int .u8 48) = u8 48 from rfl, n_eql]
   by_cases h2 : c.toNat = 48
   ·have hB : digitsB s = false := by
     unfold digitsB
     rw [hhd, show c = 48 from UInt8.toNat_inj.1 h2, decide_eq_true (show 1 < s.length from h1)]
     simp
    rw [decide_eq_true h2, hB]
    rfl
   ·have : (some c == some (48 : UInt8)) = false := beq_eq_false_iff_ne.2 fun e => h2 (by rw [Option.some.inj e]; rfl)
    rw [decide_eq_false h2]
    simp only [f21_j1, z_cond, cond_false]
    rw [show (SV.int .i64 0) = i64 0 from rfl, rdig_loop _ K H hl s 0 K rfl hsK]
    unfold digitsB
    rw [hhd, this, hem]
    simp
  ·rw [decide_eq_false h1, z_guard, cond_false]
   simp only [f21_j1, z_cond, cond_false]
   rw [show (SV.int .i64 0) = i64 0 from rfl, rdig_loop _ K H hl s 0 K rfl hsK]
   unfold digitsB
   rw [hem, decide_eq_false (show ¬ 1 < s.length from h1)]
   simp
theorem ten_D (i : Nat) : 10 ^ i <= D ^ i := Nat.pow_le_pow_left (by decide) i
theorem rpar_loop (K : Nat) (hK : 3000000 < K) (d : Nat) {H0 : Heap} {s : List UInt8} (hs : s.all isDig = true) (hl : s.length <= 1300) : ∀ (m i fuel a : Nat) (H : Heap) (o : SV), i + m = s.length -> m < fuel -> Frame H0 H -> IsR H o a -> a < 10 ^ i -> isSlice o ->
  ∃ r H', slow.loop3 (f22_l2 slow K (runQ wk tab slow K (d + 3))) fuel (.str s) o (i64 i) H = some (.tuple [r, .bool (decide (valS a (s.drop i) < 2 ^ 4096))], H') /\ Frame H0 H' /\ isSlice r /\ (valS a (s.drop i) < 2 ^ 4096 -> IsR H' r (valS a (s.drop i)))
 | 0, i, fuel, a, H, o, him, hf, hfr, ho, ha, hos => by
  obtain ⟨fuel, rfl⟩ : ∃ m, fuel = m + 1 := ⟨fuel - 1, by omega⟩
  have hi : ¬ i < s.length := by omega
  have hal : (rdigs a).length <= i := rdigs_len_le (Nat.lt_of_lt_of_le ha (ten_D i))
  have hlong := rlong_ok K (by omega) (d + 1) H ho (by omega)
  rw [List.drop_of_length_le (by omega), show valS a [] = a from rfl]
  rw [z_loop3]
  simp only [f22_l2, z_slen, n_lss, decide_eq_false hi, z_cond, cond_false, hlong, z_call]
  by_cases h : a < 2 ^ 4096
  ·rw [decide_eq_true h]
   simp only [Bool.not_true, cond_false, z_rest (Arr.good ho)]
   exact ⟨o, H, rfl, hfr, hos, fun _ => ho⟩
  ·rw [decide_eq_false h]
   simp only [Bool.not_false, cond_true]
   exact ⟨_, H, rfl, hfr, trivial, fun h' => absurd h' h⟩
 | m + 1, i, fuel, a, H, o, him, hf, hfr, ho, ha, hos => by
  obtain ⟨fuel, rfl⟩ : ∃ m, fuel = m + 1 := ⟨fuel - 1, by omega⟩
  have hi : i < s.length := by omega
  obtain ⟨x, hx⟩ : ∃ x, s[i]? = some x := ⟨_, List.getElem?_eq_getElem hi⟩
  have hdig := isDig_iff.1 (List.all_eq_true.1 hs x (List.mem_of_getElem? hx))
  have hdv := digV_eq x
  have hdx : s.drop i = x :: s.drop (i + 1) := List.drop_eq_getElem?_toList_append (l := s) (i := i) ▸ by rw [hx]; rfl
  have hal : (rdigs a).length <= i := rdigs_len_le (Nat.lt_of_lt_of_le ha (ten_D i))
  obtain ⟨t, H1, h1, f1, ht⟩ := rof_ok K (by omega) (d + 2) H (n := 10) (by decide)
  have h10 : (rdigs 10).length <= 4 := rdigs_len64 (by decide)
  obtain ⟨p, H2, h2, f2, hp⟩ := rmul01_ok K (d + 1) H1 (ho.fr f1) ht (by omega) (by omega) (by omega)
  have ha10 : a * 10 < 10 ^ (i + 1) := by rw [Nat.pow_succ]; omega
  have hpl : (rdigs (a * 10)).length <= i + 1 := rdigs_len_le (Nat.lt_of_lt_of_le ha10 (ten_D (i + 1)))
  obtain ⟨u, H3, h3, f3, hu⟩ := rof_ok K (by omega) (d + 2) H2 (n := digV x) (by omega)
  have hul : (rdigs (digV x)).length <= 4 := rdigs_len64 (by omega)
  obtain ⟨q, H4, h4, f4, hq⟩ := radd_ok K (d + 1) H3 (hp.fr f3) hu (by omega) (by omega) hK
  have hqs : isSlice q := Arr.isSlice hq
  have hsum : a * 10 + digV x < 10 ^ (i + 1) := by
   rw [Nat.pow_succ]
   omega
  obtain ⟨r, H5, h5, f5, hr5⟩ := rpar_loop K hK d hs hl m (i + 1) fuel (a * 10 + digV x) H4 q (by omega) (by omega) (Frame.trans hfr (Frame.trans f1 (Frame.trans f2 (Frame.trans f3 f4)))) hq hsum hqs
  have e5 : valS (a * 10 + digV x) (s.drop (i + 1)) = valS a (s.drop i) := by rw [hdx, valS_cons, Nat.mul_comm a 10]
  rw [e5] at h5 hr5
  refine ⟨r, H5, ?_, f5, hr5⟩
  have hsub : ∀ k, slow.sub (u8 x.toNat) (.int .u8 48) k = k (u8 (digV x)) := fun k => by
   rw [z_sub, show ((x.toNat : Int) - 48) = ((digV x : Nat) : Int) by omega, wrap_u8, Nat.mod_eq_of_lt (by omega)]
  rw [z_loop3]
  simp only [f22_l2, z_slen, n_lss, decide_eq_true hi, z_cond, cond_true]
  rw [show (SV.int .u64 10) = u64 10 from rfl, h1]
  simp only [z_call, h2, z_stridx _ hx, hsub]
  rw [n_conv64 _ .u8 _ (by omega), h3]
  simp only [z_call, h4]
  rw [show (SV.int .i64 1) = i64 1 from rfl, n_addi _ (by omega)]
  exact h5
theorem rparse01_ok (K : Nat) (hK : 3000000 < K) (d : Nat) (H : Heap) {s : List UInt8} (hB : digitsB s = true) : ∃ r H', runQ wk tab slow K (d + 4) 22 [.str s] H = some (.tuple [r, .bool (decide (valS 0 s < 2 ^ 4096))], H') /\ Frame H H' /\ isSlice r /\ (valS 0 s < 2 ^ 4096 -> IsR H' r (valS 0 s)) := by
 show ∃ r H', f22 slow K (runQ wk tab slow K (d + 3)) (.str s) H = _ /\ _
 have hall : s.all isDig = true := by
  unfold digitsB at hB
  simp only [Bool.and_eq_true] at hB
  exact hB.2.2
 simp only [f22, z_slen]
 rw [show (SV.int .i64 1300) = i64 1300 from rfl, n_gtr, z_cond]
 by_cases hl : s.length > 1300
 ·have hlong := long_text2 hB hl
  rw [decide_eq_true hl, cond_true, decide_eq_false hlong]
  exact ⟨_, H, rfl, Fr.refl _ _, trivial, fun h => absurd h hlong⟩
 ·rw [decide_eq_false hl, cond_false]
  have := rpar_loop K hK d (H0 := H) hall (by omega) s.length 0 K 0 H (.slice nilSl) (by omega) (by omega) (Fr.refl _ _) (IsR.zero (Arr.nil H)) (by simp) trivial
  rw [List.drop_zero] at this
  exact this
end Go.Sh.Of
namespace Go.Sh.Of
open Go
theorem IsR.slice {H : Heap} {v : SV} {n : Nat} (h : IsR H v n) : ∃ s, v = .slice s := by
 obtain ⟨s, e, _⟩ := h
 exact ⟨s, e⟩
end Go.Sh.Of
