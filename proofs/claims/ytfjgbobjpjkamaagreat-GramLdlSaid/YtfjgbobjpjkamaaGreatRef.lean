/- Contracts of the reference's layer 1: numbers by digits to the base 2^16. Contracts of the reference's layer 1: Mul, Div, Small, Text. Contracts of the reference's layer 1: Small, Text; of layer 5: Of, Text. Contracts of the reference's layer 5: Fits, From, Tell. Contracts of the reference's layer 5: Tell, Identity; of law05: rows, same. Contracts of the reference: Of, of a machine's number. Contracts of the reference's layer 1: Add, Bits, Long, Digits, Parse; of layer 5: Parse. Contracts of the reference's layer 5: rows that are built; Add, Mul, Neg, Columns, Read. -/
import Derived.Test.YtfjgbobjpjkamaaGreatMat
import Derived.Test.YtfjgbobjpjkamaaGreatNum
set_option linter.unusedVariables false
set_option linter.unusedSimpArgs false
namespace Go.Sh.Of
open Go
def D : Nat := 65536
def rdigs (n : Nat) : List Nat := if h : n = 0 then [] else n % D :: rdigs (n / D)
termination_by n
decreasing_by exact Nat.div_lt_self (Nat.pos_of_ne_zero h) (by decide)
def rval : List Nat -> Nat
 | [] => 0
 | d :: ds => d + D * rval ds
def RSmall (ds : List Nat) : Prop := ∀ d ∈ ds, d < D
theorem rdigs_zero : rdigs 0 = [] := by rw [rdigs]; rfl
theorem rdigs_pos {n : Nat} (h : n ≠ 0) : rdigs n = n % D :: rdigs (n / D) := by rw [rdigs, dif_neg h]
theorem rval_digs (n : Nat) : rval (rdigs n) = n := by
 induction n using Nat.strongRecOn with
 | ind n ih =>
  by_cases h : n = 0
  ·subst h; rw [rdigs_zero]; rfl
  ·rw [rdigs_pos h, rval, ih (n / D) (Nat.div_lt_self (Nat.pos_of_ne_zero h) (by decide))]
   exact Nat.mod_add_div n D
theorem rdigs_small (n : Nat) : RSmall (rdigs n) := by
 induction n using Nat.strongRecOn with
 | ind n ih =>
  by_cases h : n = 0
  ·subst h; rw [rdigs_zero]; intro d hd; cases hd
  ·rw [rdigs_pos h]
   intro d hd
   rcases List.mem_cons.1 hd with rfl | hd
   ·exact Nat.mod_lt _ (by decide)
   ·exact ih (n / D) (Nat.div_lt_self (Nat.pos_of_ne_zero h) (by decide)) d hd
theorem rval_append (a b : List Nat) : rval (a ++ b) = rval a + D ^ a.length * rval b := by
 induction a with
 | nil => simp [rval]
 | cons d a ih => simp only [List.cons_append, rval, ih, List.length_cons, Nat.pow_succ, Nat.mul_add, Nat.add_assoc]; congr 1; congr 1; rw [Nat.mul_comm (D ^ a.length) D, Nat.mul_assoc]
theorem rval_lt {ds : List Nat} (h : RSmall ds) : rval ds < D ^ ds.length := by
 induction ds with
 | nil => simp [rval]
 | cons d ds ih =>
  have h1 := h d (by simp)
  have h2 := ih fun x hx => h x (by simp [hx])
  simp only [rval, List.length_cons, Nat.pow_succ]
  have : D * rval ds + D <= D * D ^ ds.length := by
   rw [<- Nat.mul_succ]
   exact Nat.mul_le_mul_left _ h2
  rw [Nat.mul_comm (D ^ ds.length) D]
  omega
theorem rval_zeros (n : Nat) : rval (List.replicate n 0) = 0 := by
 induction n with
 | zero => rfl
 | succ n ih => simp [List.replicate_succ, rval, ih]
theorem rdigs_val {ds : List Nat} (h : RSmall ds) (hl : ∀ d, ds.getLast? = some d -> d ≠ 0) : rdigs (rval ds) = ds := by
 induction ds with
 | nil => exact rdigs_zero
 | cons d ds ih =>
  have h1 := h d (by simp)
  have h2 : RSmall ds := fun x hx => h x (by simp [hx])
  have hne : rval (d :: ds) ≠ 0 := by
   cases ds with
   | nil =>
    have := hl d rfl
    simp only [rval]; omega
   | cons e es =>
    have hd := ih h2 fun x hx => hl x (by rw [List.getLast?_cons_cons]; exact hx)
    intro e0
    have h0 : rval (e :: es) = 0 := by
     simp only [rval] at e0 ⊢
     have : D * (e + D * rval es) = 0 := by omega
     exact (Nat.mul_eq_zero.1 this).resolve_left (by decide)
    rw [h0, rdigs_zero] at hd
    cases hd
  rw [rdigs_pos hne]
  have e1 : rval (d :: ds) % D = d := by
   simp only [rval]
   rw [Nat.add_mul_mod_self_left]
   exact Nat.mod_eq_of_lt h1
  have e2 : rval (d :: ds) / D = rval ds := by
   simp only [rval]
   rw [Nat.add_mul_div_left _ _ (by decide), Nat.div_eq_of_lt h1, Nat.zero_add]
  rw [e1, e2]
  cases ds with
  | nil => rw [show rval [] = 0 from rfl, rdigs_zero]
  | cons e es => rw [ih h2 fun x hx => hl x (by rw [List.getLast?_cons_cons]; exact hx)]
abbrev rl (ds : List Nat) : List SV := ds.map u32
theorem rdigs_len_le {n k : Nat} (h : n < D ^ k) : (rdigs n).length <= k := by
  induction k generalizing n with
  | zero => have : n = 0 := by simpa using h
            subst this; rw [rdigs_zero]; simp
  | succ k ih =>
    by_cases h0 : n = 0
    · subst h0; rw [rdigs_zero]; simp
    · rw [rdigs_pos h0, List.length_cons]
      have : n / D < D ^ k := by rw [Nat.div_lt_iff_lt_mul (by decide), <- Nat.pow_succ]; exact h
      exact Nat.succ_le_succ (ih this)
theorem rdigs_nil {n : Nat} : rdigs n = [] ↔ n = 0 := by
 constructor
 ·intro h
  have := rval_digs n
  rw [h] at this
  exact this.symm
 ·rintro rfl; exact rdigs_zero
theorem rl_len (ds : List Nat) : (rl ds).length = ds.length := by simp
theorem rl_get {ds : List Nat} {i d : Nat} (h : ds[i]? = some d) : (rl ds)[i]? = some (u32 d) := by simp [h]
theorem rlen {H : Heap} {v : SV} {ds : List Nat} (hv : Arr H v (rl ds)) (k : K1) : slow.len v k = k (i64 ds.length) := by rw [hv.len]; simp
theorem rval_cmp_len {a b : Nat} (h : (rdigs a).length < (rdigs b).length) : a < b := by
 have h1 := rval_lt (rdigs_small a)
 rw [rval_digs] at h1
 have hb0 : b ≠ 0 := fun e => by subst e; rw [rdigs_zero] at h; simp at h
 apply Nat.lt_of_not_le
 intro hle
 have : b < D ^ (rdigs a).length := Nat.lt_of_le_of_lt hle h1
 have := rdigs_len_le this
 omega
theorem rval_set : ∀ {o : List Nat} {i d z : Nat}, o[i]? = some d -> rval (o.set i z) + d * D ^ i = rval o + z * D ^ i
 | [], i, d, z, h => by simp at h
 | x :: o, 0, d, z, h => by simp at h; subst h; simp [rval]; omega
 | x :: o, i + 1, d, z, h => by
  simp only [List.getElem?_cons_succ] at h
  have ih := rval_set (z := z) h
  simp only [List.set_cons_succ, rval, Nat.pow_succ]
  have e1 : d * (D ^ i * D) = D * (d * D ^ i) := by rw [<- Nat.mul_assoc, Nat.mul_comm]
  have e2 : z * (D ^ i * D) = D * (z * D ^ i) := by rw [<- Nat.mul_assoc, Nat.mul_comm]
  rw [e1, e2, Nat.add_assoc, Nat.add_assoc, <- Nat.mul_add, <- Nat.mul_add, ih]
theorem rsmall_set {o : List Nat} (h : RSmall o) {i z : Nat} (hz : z < D) : RSmall (o.set i z) := fun d hd => by
 rcases List.mem_or_eq_of_mem_set hd with hd | rfl
 ·exact h d hd
 ·exact hz
theorem rsmall_zeros (n : Nat) : RSmall (List.replicate n 0) := fun d hd => by rw [List.eq_of_mem_replicate hd]; decide
theorem rl_zeros (n : Nat) : List.replicate n (SV.int .u32 0) = rl (List.replicate n 0) := by simp [rl]
theorem rl_set (o : List Nat) (i z : Nat) : (rl o).set i (u32 z) = rl (o.set i z) := by simp [rl, List.map_set]
abbrev IsR (H : Heap) (v : SV) (n : Nat) : Prop := Arr H v (rl (rdigs n))
theorem IsR.zero {H : Heap} {v : SV} (h : Arr H v []) : IsR H v 0 := by rw [IsR, rdigs_zero]; exact h
theorem Own.ge {lo : Nat} {H : Heap} {v : SV} {cs : List SV} (h : Own lo H v cs) {r : Nat} (hr : inRow v r) : lo <= r := by
 obtain ⟨base, rfl, h⟩ := h
 obtain ⟨s, o, e, h4⟩ := hr
 cases e
 rcases h with ⟨rfl, _⟩ | ⟨r', ver, rfl, h2, h3⟩
 ·cases h4
 ·cases h4; exact h2
theorem slice010r_ok {H : Heap} {v : SV} {cs : List SV} (h : Arr H v cs) {n : Nat} (hn : n <= cs.length) (kb : IntKind) :
  ∃ v', (∀ k, slow.slice010 1 v (.int kb n) H k = k v') /\ Arr H v' (cs.take n) /\ ∀ r, inRow v' r -> inRow v r := by
 obtain ⟨s, rfl, h2, h3⟩ := h
 have hfit : fitsCap H 1 s n = true := by
  unfold fitsCap
  rw [decide_eq_true (by rw [h2]; omega)]
  rfl
 have hesz : eszOk H 1 s 0 = true := rfl
 refine ⟨.slice { s with len := n, cap := s.cap.map (· - 0) }, fun k => ?_, ⟨_, rfl, by simp; omega, ?_⟩, fun r ⟨s', o, e, hb⟩ => by cases e; exact ⟨s, o, rfl, hb⟩⟩
 ·show (opR (.slice 1 false true false) [.slice s, .int kb n] H).bind k = _
  simp only [opR, sliceOp, loOf]
  rw [if_pos ⟨by omega, by omega, hfit, hesz⟩]
  simp [subSl]
 ·rcases h3 with rfl | ⟨r, o, row, b1, b2, b3, b4⟩
  ·left; simp
  ·right
   refine ⟨r, o, row, b1, b2, b3, fun i x hx => ?_⟩
   rw [List.getElem?_take] at hx
   split at hx
   ·exact b4 i x hx
   ·cases hx
theorem rcut_end {H : Heap} {v : SV} {ds : List Nat} (hv : Arr H v (rl ds)) (hs : RSmall ds) {n : Nat} (hn : n <= ds.length) (hval : rval (ds.take n) = rval ds) (hlast : ∀ d, (ds.take n).getLast? = some d -> d ≠ 0) :
  ∃ sl, (∀ k, slow.slice010 1 v (i64 n) H k = k sl) /\ IsR H sl (rval ds) /\ ∀ r, inRow sl r -> inRow v r := by
 obtain ⟨sl, h1, h2, hin⟩ := slice010r_ok hv (n := n) (by rw [rl_len]; exact hn) .i64
 have e : rdigs (rval ds) = ds.take n := by
  rw [<- hval]
  exact rdigs_val (fun d hd => hs d (List.mem_of_mem_take hd)) hlast
 refine ⟨sl, h1, ?_, hin⟩
 rw [IsR, e]
 rw [show rl (ds.take n) = (rl ds).take n from List.map_take]
 exact h2
theorem rcut_loop (C : CallC) (K : Nat) (H : Heap) {v : SV} {ds : List Nat} (hv : Arr H v (rl ds)) (hs : RSmall ds) (hb : ds.length < 1000000000) : ∀ (n fuel : Nat), n <= ds.length -> n < fuel -> rval (ds.take n) = rval ds ->
  ∃ sl, slow.loop2 (f93_l1 slow K C) fuel v (i64 n) H = some (sl, H) /\ IsR H sl (rval ds) /\ ∀ r, inRow sl r -> inRow v r
 | 0, fuel, hn, hf, hval => by
  obtain ⟨fuel, rfl⟩ : ∃ m, fuel = m + 1 := ⟨fuel - 1, by omega⟩
  obtain ⟨sl, h1, h2⟩ := rcut_end hv hs hn hval (fun d hd => by simp at hd)
  refine ⟨sl, ?_, h2⟩
  rw [z_loop2]
  have h00 : ¬ (((0 : Nat) : Int) > 0) := by omega
  simp only [f93_l1, z_gtr, decide_eq_false h00, z_guard, cond_false, f93_j2, z_cond, h1, z_rest h2.1.good]
 | n + 1, fuel, hn, hf, hval => by
  obtain ⟨fuel, rfl⟩ : ∃ m, fuel = m + 1 := ⟨fuel - 1, by omega⟩
  obtain ⟨d, hd⟩ : ∃ d, ds[n]? = some d := ⟨_, List.getElem?_eq_getElem (by omega)⟩
  have hpos : (((n + 1 : Nat) : Int)) > 0 := by omega
  have htk : ds.take (n + 1) = ds.take n ++ [d] := by rw [List.take_add_one, hd]; rfl
  rw [z_loop2]
  simp only [f93_l1, z_gtr, decide_eq_true hpos, z_guard, cond_true]
  rw [z_sub64 (by omega) (by omega)]
  have e : (((n + 1 : Nat) : Int) - 1) = (n : Int) := by omega
  rw [e]
  simp only [hv.load (rl_get hd), z_eql]
  by_cases h0 : d = 0
  ·subst h0
   have hb0 : (((0 : Nat) : Int) == 0) = true := rfl
   simp only [hb0, f93_j2, z_cond, cond_true]
   rw [z_sub64 (by omega) (by omega), e]
   exact rcut_loop C K H hv hs hb n fuel (by omega) (by omega) (by rw [<- hval, htk, rval_append]; simp [rval])
  ·have hb0 : ((d : Int) == 0) = false := by simp [h0]
   obtain ⟨sl, h1, h2⟩ := rcut_end hv hs hn hval (fun d' hd' => by rw [htk] at hd'; simp at hd'; omega)
   refine ⟨sl, ?_, h2⟩
   simp only [hb0, f93_j2, z_cond, cond_false, h1, z_rest h2.1.good]
theorem rcut_ok (K : Nat) (d : Nat) (H : Heap) {v : SV} {ds : List Nat} (hv : Arr H v (rl ds)) (hs : RSmall ds) (hK : ds.length < K) (hb : ds.length < 1000000000) :
  ∃ sl, runQ wk tab slow K (d + 1) 93 [v] H = some (sl, H) /\ IsR H sl (rval ds) /\ ∀ r, inRow sl r -> inRow v r := by
 show ∃ sl, f93 slow K (runQ wk tab slow K d) v H = _ /\ _
 simp only [f93, rlen hv]
 exact rcut_loop _ K H hv hs hb ds.length K (Nat.le_refl _) hK (by rw [List.take_length])
theorem rof_loop (C : CallC) (K : Nat) {H0 : Heap} {N : Nat} (hNl : (rdigs N).length <= 100) : ∀ (n fuel : Nat) (H : Heap) (o : SV) (pre : List Nat), (rdigs n).length < fuel -> n < 18446744073709551616 -> Frame H0 H -> Own H0.size H o (rl pre) -> pre ++ rdigs n = rdigs N ->
  ∃ r H', slow.loop2 (f63_l1 slow K C) fuel (u64 n) o H = some (r, H') /\ Frame H0 H' /\ IsR H' r N := by
 intro n
 induction n using Nat.strongRecOn with
 | ind n ih =>
  intro fuel H o pre hf hlt hfr ho hpre
  obtain ⟨fuel, rfl⟩ : ∃ m, fuel = m + 1 := ⟨fuel - 1, by omega⟩
  rw [z_loop2]
  by_cases h0 : n = 0
  ·subst h0
   rw [rdigs_zero, List.append_nil] at hpre
   have h00 : ¬ (((0 : Nat) : Int) > 0) := by omega
   refine ⟨o, H, ?_, hfr, by rw [IsR, <- hpre]; exact ho.arr⟩
   simp only [f63_l1, z_gtr, decide_eq_false h00, z_cond, cond_false, z_rest ho.arr.good]
  ·have hpos : ((n : Nat) : Int) > 0 := by omega
   have hm : n % 65536 % 4294967296 = n % 65536 := by omega
   have hpl : pre.length <= 100 := by
    have := congrArg List.length hpre
    rw [List.length_append] at this
    omega
   obtain ⟨o', H1, ha, ho1, f1, _⟩ := push1 ho hfr.size (.int .u32 0) (x := u32 (n % 65536)) rfl (by_ := 4) (roomy_small (by simp; omega))
   have e1 : rl pre ++ [u32 (n % 65536)] = rl (pre ++ [n % 65536]) := by simp [rl]
   rw [e1] at ho1
   rw [rdigs_pos h0] at hpre hf
   obtain ⟨r, H2, h2, f2, hr⟩ := ih (n / 65536) (Nat.div_lt_self (Nat.pos_of_ne_zero h0) (by decide)) fuel H1 o' (pre ++ [n % 65536]) (by
    have : (rdigs (n / D)).length + 1 < fuel + 1 := hf
    show (rdigs (n / D)).length < fuel
    omega) (by omega) (Fr.trans hfr f1) ho1 (by rw [<- hpre]; simp [D])
   refine ⟨r, H2, ?_, f2, hr⟩
   simp only [f63_l1, z_gtr, decide_eq_true hpos, z_cond, cond_true]
   rw [show (SV.int .u64 65536) = u64 65536 from rfl, n_rem _ .u64 n (by decide), n_conv32, hm, ha, n_quo64 _ n (by decide) hlt]
   exact h2
theorem rdigs_len64 {n : Nat} (hn : n < 18446744073709551616) : (rdigs n).length <= 4 := rdigs_len_le (k := 4) (by show n < 65536 ^ 4; omega)
theorem rof_ok (K : Nat) (hK : 1000 < K) (d : Nat) (H : Heap) {n : Nat} (hn : n < 18446744073709551616) :
  ∃ r H', runQ wk tab slow K (d + 1) 63 [u64 n] H = some (r, H') /\ Frame H H' /\ IsR H' r n := by
 have hl := rdigs_len64 hn
 exact rof_loop (runQ wk tab slow K d) K (by omega) n K H (.slice nilSl) [] (by omega) hn (Fr.refl _ _) (Own.nil _ _) rfl
theorem rcmp_loop (C : CallC) (K : Nat) (H : Heap) {v w : SV} {xs ys : List Nat} (hv : Arr H v (rl xs)) (hw : Arr H w (rl ys)) (hl : xs.length = ys.length) (ha : RSmall xs) (hb : RSmall ys) (hlen : xs.length < 1000000000) : ∀ (n fuel : Nat), n <= xs.length -> n < fuel -> rval (xs.drop n) = rval (ys.drop n) ->
  slow.loop3 (f116_l3 slow K C) fuel v w (.int .i64 ((n : Int) - 1)) H = some (.int .i64 (cmpN (rval xs) (rval ys)), H)
 | 0, fuel, hn, hf, he => by
  obtain ⟨fuel, rfl⟩ : ∃ m, fuel = m + 1 := ⟨fuel - 1, by omega⟩
  rw [z_loop3]
  have h0 : ¬ (((0 : Nat) : Int) - 1 >= 0) := by omega
  simp only [f116_l3, z_geq, decide_eq_false h0, z_cond, cond_false]
  simp only [List.drop_zero] at he
  simp [cmpN, he]
 | n + 1, fuel, hn, hf, he => by
  obtain ⟨fuel, rfl⟩ : ∃ m, fuel = m + 1 := ⟨fuel - 1, by omega⟩
  obtain ⟨x, hx⟩ : ∃ x, xs[n]? = some x := ⟨_, List.getElem?_eq_getElem (by omega)⟩
  obtain ⟨y, hy⟩ : ∃ y, ys[n]? = some y := ⟨_, List.getElem?_eq_getElem (by omega)⟩
  have hda : xs.drop n = x :: xs.drop (n + 1) := List.drop_eq_getElem?_toList_append (l := xs) (i := n) ▸ by rw [hx]; rfl
  have hdb : ys.drop n = y :: ys.drop (n + 1) := List.drop_eq_getElem?_toList_append (l := ys) (i := n) ▸ by rw [hy]; rfl
  rw [z_loop3]
  have h0 : (((n + 1 : Nat) : Int) - 1 >= 0) := by omega
  have e : (((n + 1 : Nat) : Int) - 1) = (n : Int) := by omega
  simp only [f116_l3, z_geq, decide_eq_true h0, z_cond, cond_true]
  rw [e]
  simp only [hv.load (rl_get hx), hw.load (rl_get hy), n_lss, n_gtr, z_cond]
  have hxs := ha x (List.mem_of_getElem? hx)
  have hys := hb y (List.mem_of_getElem? hy)
  have hva : rval xs = rval (xs.take n) + D ^ n * (x + D * rval (xs.drop (n + 1))) := by
   conv => lhs; rw [<- List.take_append_drop n xs, rval_append, hda]
   rw [List.length_take_of_le (by omega)]; rfl
  have hvb : rval ys = rval (ys.take n) + D ^ n * (y + D * rval (ys.drop (n + 1))) := by
   conv => lhs; rw [<- List.take_append_drop n ys, rval_append, hdb]
   rw [List.length_take_of_le (by omega)]; rfl
  have hta : rval (xs.take n) < D ^ n := by
   have := rval_lt (ds := xs.take n) fun d hd => ha d (List.mem_of_mem_take hd)
   rwa [List.length_take_of_le (by omega)] at this
  have htb : rval (ys.take n) < D ^ n := by
   have := rval_lt (ds := ys.take n) fun d hd => hb d (List.mem_of_mem_take hd)
   rwa [List.length_take_of_le (by omega)] at this
  have key : ∀ p q : Nat, p < q -> p + D * rval (ys.drop (n + 1)) + 1 <= q + D * rval (ys.drop (n + 1)) := fun p q h => by omega
  by_cases h1 : x < y
  ·simp only [decide_eq_true h1, cond_true]
   have : rval xs < rval ys := by
    rw [hva, hvb, he]
    have := Nat.mul_le_mul_left (D ^ n) (key x y h1)
    rw [Nat.mul_succ] at this
    omega
   simp [cmpN, this]
  ·simp only [decide_eq_false h1, cond_false]
   by_cases h2 : x > y
   ·simp only [decide_eq_true h2, cond_true]
    have : rval ys < rval xs := by
     rw [hva, hvb, he]
     have := Nat.mul_le_mul_left (D ^ n) (key y x h2)
     rw [Nat.mul_succ] at this
     omega
    have h3 : ¬ rval xs < rval ys := by omega
    simp [cmpN, this, h3]
   ·simp only [decide_eq_false h2, cond_false]
    have hxy : x = y := by omega
    rw [z_sub64 (by omega) (by omega)]
    exact rcmp_loop C K H hv hw hl ha hb hlen n fuel (by omega) (by omega) (by rw [hda, hdb, rval, rval, hxy, he])
theorem rcmp_ok (K : Nat) (d : Nat) (H : Heap) {v w : SV} {a b : Nat} (hx : IsR H v a) (hy : IsR H w b) (hK : (rdigs a).length < K) (hb : (rdigs a).length < 1000000000) :
  runQ wk tab slow K (d + 1) 116 [v, w] H = some (.int .i64 (cmpN a b), H) := by
 show f116 slow K (runQ wk tab slow K d) v w H = _
 simp only [f116, rlen hx, rlen hy, n_neq, n_lss, z_cond]
 by_cases h : (rdigs a).length = (rdigs b).length
 ·have hne : ¬ ((rdigs a).length ≠ (rdigs b).length) := fun hh => hh h
  simp only [decide_eq_false hne, cond_false]
  rw [z_sub64 (by omega) (by omega)]
  have := rcmp_loop (runQ wk tab slow K d) K H hx hy h (rdigs_small a) (rdigs_small b) hb (rdigs a).length K (Nat.le_refl _) hK (by rw [List.drop_length, h, List.drop_length])
  rw [rval_digs, rval_digs] at this
  exact this
 ·simp only [decide_eq_true h, cond_true]
  by_cases h2 : (rdigs a).length < (rdigs b).length
  ·simp only [decide_eq_true h2, cond_true]
   simp [cmpN, rval_cmp_len h2]
  ·simp only [decide_eq_false h2, cond_false]
   have h3 := rval_cmp_len (a := b) (b := a) (by omega)
   have h4 : ¬ a < b := by omega
   simp [cmpN, h3, h4]
theorem rsub_loop (K : Nat) (d : Nat) {H0 : Heap} {v w : SV} {xs ys : List Nat} (hv : Arr H0 v (rl xs)) (hw : Arr H0 w (rl ys)) (hxs : RSmall xs) (hys : RSmall ys) (hlen : xs.length < 10000000) (hly : ys.length <= xs.length) (hK : xs.length < K) {S : Nat} (hS : rval xs = S + rval ys) : ∀ (m i fuel : Nat) (c : Nat) (H : Heap) (o : SV) (res : List Nat), i + m = xs.length -> m < fuel -> c <= 1 -> RSmall res -> res.length = i -> Frame H0 H -> Own H0.size H o (rl res) -> rval res + D ^ i * rval (xs.drop i) = S + D ^ i * (c + rval (ys.drop i)) -> rval (ys.drop i) + c <= rval (xs.drop i) ->
  ∃ r H', slow.loop5 (f117_l1 slow K (runQ wk tab slow K (d + 1))) fuel v w o (u32 c) (i64 i) H = some (r, H') /\ Frame H0 H' /\ IsR H' r S /\ ∀ q, inRow r q -> H0.size <= q
 | 0, i, fuel, c, H, o, res, him, hf, hc, hres, hri, hfr, ho, he, hge => by
  obtain ⟨fuel, rfl⟩ : ∃ m, fuel = m + 1 := ⟨fuel - 1, by omega⟩
  have hi : i = xs.length := by omega
  have hdx : xs.drop i = [] := List.drop_eq_nil_iff.2 (by omega)
  have hdy : ys.drop i = [] := List.drop_eq_nil_iff.2 (by omega)
  rw [hdx, hdy] at he hge
  simp only [rval] at he hge
  have hc0 : c = 0 := by omega
  subst hc0
  have hvr : rval res = S := by simpa using he
  obtain ⟨sl, h1, h2, hin⟩ := rcut_ok K d H ho.arr hres (by omega) (by omega)
  rw [hvr] at h2
  refine ⟨sl, H, ?_, hfr, h2, fun q hq => Own.ge ho (hin q hq)⟩
  rw [z_loop5]
  have hlt : ¬ i < xs.length := by omega
  simp only [f117_l1, rlen (hv.fr hfr), n_lss, decide_eq_false hlt, z_cond, cond_false, h1, z_call, z_rest h2.good]
 | m + 1, i, fuel, c, H, o, res, him, hf, hc, hres, hri, hfr, ho, he, hge => by
  obtain ⟨fuel, rfl⟩ : ∃ m, fuel = m + 1 := ⟨fuel - 1, by omega⟩
  have hlt : i < xs.length := by omega
  obtain ⟨x, hx⟩ : ∃ x, xs[i]? = some x := ⟨_, List.getElem?_eq_getElem hlt⟩
  have hxD : x < 65536 := hxs x (List.mem_of_getElem? hx)
  have hdx : xs.drop i = x :: xs.drop (i + 1) := List.drop_eq_getElem?_toList_append (l := xs) (i := i) ▸ by rw [hx]; rfl
  have hv' := hv.fr hfr
  have hw' := hw.fr hfr
  obtain ⟨y, hy, hyD, hstep⟩ : ∃ y, rval (ys.drop i) = y + D * rval (ys.drop (i + 1)) /\ y < 65536 /\ 
    f117_l1 slow K (runQ wk tab slow K (d + 1)) v w o (u32 c) (i64 i) H (slow.loop5 (f117_l1 slow K (runQ wk tab slow K (d + 1))) fuel) = f117_j3 slow K (runQ wk tab slow K (d + 1)) (slow.loop5 (f117_l1 slow K (runQ wk tab slow K (d + 1))) fuel) v w o (i64 i) (u32 (x + 65536 - c - y)) H := by
   have hstart : ∀ A, (slow.add (u32 x) (.int .u32 65536) fun x12 => slow.sub x12 (u32 c) A) = A (u32 (x + 65536 - c)) := fun A => by
    rw [show (SV.int .u32 65536) = u32 65536 from rfl, n_add32, Nat.mod_eq_of_lt (by omega), n_sub32 _ (by omega) (by omega)]
    have : (x + 65536 + 4294967296 - c) % 4294967296 = x + 65536 - c := by omega
    rw [this]
   by_cases hib : i < ys.length
   ·obtain ⟨y, hy⟩ : ∃ y, ys[i]? = some y := ⟨_, List.getElem?_eq_getElem hib⟩
    have hyD : y < 65536 := hys y (List.mem_of_getElem? hy)
    have hdb : ys.drop i = y :: ys.drop (i + 1) := List.drop_eq_getElem?_toList_append (l := ys) (i := i) ▸ by rw [hy]; rfl
    refine ⟨y, by rw [hdb]; rfl, hyD, ?_⟩
    simp only [f117_l1, rlen hv', n_lss, decide_eq_true hlt, z_cond, cond_true, hv'.load (rl_get hx)]
    rw [hstart]
    simp only [rlen hw', n_lss, decide_eq_true hib, z_cond, cond_true, hw'.load (rl_get hy)]
    rw [n_sub32 _ (by omega) (by omega)]
    have : (x + 65536 - c + 4294967296 - y) % 4294967296 = x + 65536 - c - y := by omega
    rw [this]
   ·have hdb : ys.drop i = [] := List.drop_eq_nil_iff.2 (by omega)
    have hdb2 : ys.drop (i + 1) = [] := List.drop_eq_nil_iff.2 (by omega)
    refine ⟨0, by rw [hdb, hdb2]; rfl, by decide, ?_⟩
    simp only [f117_l1, rlen hv', n_lss, decide_eq_true hlt, z_cond, cond_true, hv'.load (rl_get hx)]
    rw [hstart]
    simp only [rlen hw', n_lss, decide_eq_false hib, z_cond, cond_false, Nat.sub_zero]
  obtain ⟨z, c', hz, hc', hzD, hc1, hbor⟩ : ∃ z c', (x + 65536 - c - y) % 65536 = z /\ 1 - (x + 65536 - c - y) / 65536 = c' /\ z < D /\ c' <= 1 /\ z + y + c = x + D * c' := by
   refine ⟨_, _, rfl, rfl, Nat.mod_lt _ (by decide), by omega, ?_⟩
   show _ = x + 65536 * _
   omega
  obtain ⟨o', H1, ha, ho1, f1, _⟩ := push1 ho hfr.size (.int .u32 0) (x := u32 z) rfl (by_ := 4) (roomy_small (by simp; omega))
  have e1 : rl res ++ [u32 z] = rl (res ++ [z]) := by simp [rl]
  rw [e1] at ho1
  rw [hdx, hy] at he hge
  simp only [rval] at he hge
  obtain ⟨r, H2, h2, f2, hr⟩ := rsub_loop K d hv hw hxs hys hlen hly hK hS m (i + 1) fuel c' H1 o' (res ++ [z]) (by omega) (by omega) hc1 (fun q hq => by
    rcases List.mem_append.1 hq with hq | hq
    ·exact hres q hq
    ·rw [List.mem_singleton.1 hq]; exact hzD) (by simp [hri]) (Fr.trans hfr f1) ho1 (by
    rw [rval_append, hri]
    simp only [rval, Nat.mul_zero, Nat.add_zero, Nat.pow_succ]
    generalize rval (ys.drop (i + 1)) = bv at *
    generalize rval (xs.drop (i + 1)) = rv at *
    generalize D ^ i = P at *
    have e1 : P * (z + y + c) = P * (x + D * c') := by rw [hbor]
    simp only [Nat.mul_add, Nat.mul_assoc] at he e1 ⊢
    omega) (by
    generalize rval (ys.drop (i + 1)) = bv at *
    generalize rval (xs.drop (i + 1)) = rv at *
    apply Nat.le_of_not_lt
    intro hlt2
    have : D * rv + D <= D * (bv + c') := by rw [<- Nat.mul_succ]; exact Nat.mul_le_mul_left _ hlt2
    rw [Nat.mul_add] at this
    omega)
  refine ⟨r, H2, ?_, f2, hr⟩
  rw [z_loop5, hstep]
  unfold f117_j3
  have hs1 : (1 + 4294967296 - (x + 65536 - c - y) / 65536) % 4294967296 = c' := by omega
  rw [show (SV.int .u32 65536) = u32 65536 from rfl, n_rem _ .u32 _ (by decide), hz, ha, n_quo32 _ _ (by decide) (by omega), show (SV.int .u32 1) = u32 1 from rfl, n_sub32 _ (by decide) (by omega), hs1, show (SV.int .i64 1) = i64 1 from rfl, n_addi _ (by omega)]
  exact h2
theorem rsub_ok (K : Nat) (d : Nat) (H : Heap) {v w : SV} {a b : Nat} (hx : IsR H v a) (hy : IsR H w b) (hab : b <= a) (hK : (rdigs a).length < K) (hb : (rdigs a).length < 10000000) :
  ∃ r H', runQ wk tab slow K (d + 2) 117 [v, w] H = some (r, H') /\ Frame H H' /\ IsR H' r (a - b) /\ ∀ q, inRow r q -> H.size <= q := by
 have hl : (rdigs b).length <= (rdigs a).length := by
  apply Nat.le_of_not_lt
  intro hlt
  have := rval_cmp_len hlt
  omega
 exact rsub_loop K d hx hy (rdigs_small a) (rdigs_small b) hb hl hK (S := a - b) (by rw [rval_digs, rval_digs]; omega) (rdigs a).length 0 K 0 H (.slice nilSl) [] (by omega) hK (by omega) (fun q hq => by cases hq) rfl (Fr.refl _ _) (Own.nil _ _) (by rw [List.drop_zero, List.drop_zero, rval_digs, rval_digs]; simp [rval]; omega) (by rw [List.drop_zero, List.drop_zero, rval_digs, rval_digs]; omega)
end Go.Sh.Of
namespace Go.Sh.Of
open Go
theorem rmul_in (C : CallC) (K : Nat) (lo : Nat) {H0 : Heap} {va w v : SV} {xs ys : List Nat} (ha : Arr H0 va (rl xs)) (hw : Arr H0 w (rl ys)) (hlo : lo = H0.size) (hys : RSmall ys) (k11 : SV -> SV -> SV -> SV -> Heap -> Rs) {i x : Nat} (hx : xs[i]? = some x) (hxD : x < 65536) (hla : xs.length < 10000000) (hlb : ys.length < 10000000) {r : Nat} {S : Nat} : ∀ (m k fuel : Nat) (c : Nat) (H : Heap) (o : List Nat), k + m = ys.length -> m + 1 < fuel -> c < 65536 -> RSmall o -> o.length = xs.length + ys.length -> Frame H0 H -> Wr lo H v r [] (rl o) [] -> (∀ q, i + ys.length <= q -> q < o.length -> o[q]? = some 0) -> rval o + D ^ (i + k) * (c + x * rval (ys.drop k)) = S ->
  ∃ o' H', slow.loop6 (f64_l3 slow K C k11) fuel va w v (i64 i) (u64 c) (i64 k) H = k11 va w v (i64 (i + 1)) H' /\ Frame H0 H' /\ Wr lo H' v r [] (rl o') [] /\ RSmall o' /\ o'.length = xs.length + ys.length /\ rval o' = S /\ (∀ q, i + 1 + ys.length <= q -> q < o'.length -> o'[q]? = some 0)
 | 0, k, fuel, c, H, o, hkm, hf, hc, hos, hol, hfr, hwr, hz, hv => by
  obtain ⟨fuel, rfl⟩ : ∃ m, fuel = m + 1 := ⟨fuel - 1, by omega⟩
  have hk : k = ys.length := by omega
  subst hk
  have hi : i < xs.length := (List.getElem?_eq_some_iff.1 hx).1
  have hw' := hw.fr hfr
  rw [List.drop_length] at hv
  simp only [rval, Nat.mul_zero, Nat.add_zero] at hv
  have hlt : ¬ (ys.length < ys.length) := Nat.lt_irrefl _
  by_cases hc0 : c = 0
  ·subst hc0
   refine ⟨o, H, ?_, hfr, hwr, hos, hol, by simpa using hv, fun q h1 h2 => hz q (by omega) h2⟩
   rw [z_loop6]
   have h00 : ¬ (((0 : Nat) : Int) > 0) := by omega
   simp only [f64_l3, rlen hw', n_lss, decide_eq_false hlt, z_guard, cond_false, z_gtr, decide_eq_false h00, f64_j4, z_cond]
   rw [show (SV.int .i64 1) = i64 1 from rfl, n_addi _ (by omega)]
  ·have h0 : o[i + ys.length]? = some 0 := hz _ (Nat.le_refl _) (by omega)
   obtain ⟨fuel, rfl⟩ : ∃ m, fuel = m + 1 := ⟨fuel - 1, by omega⟩
   have hcp : ((c : Nat) : Int) > 0 := by omega
   have hm1 : (0 + c) % 65536 % 4294967296 = c := by omega
   obtain ⟨H1, st, hw1, f1, sz1, _⟩ := hwr.store (i := i + ys.length) (by simp; omega) (x := u32 c) rfl .i64
   rw [rl_set] at hw1
   have hvs := rval_set (z := c) h0
   have hfr1 : Frame H0 H1 := Fr.trans hfr (by rw [<- hlo]; exact f1)
   have hlt2 : ¬ (ys.length + 1 < ys.length) := by omega
   have h00 : ¬ ((((0 + c) / 65536 : Nat) : Int) > 0) := by omega
   refine ⟨o.set (i + ys.length) c, H1, ?_, hfr1, hw1, rsmall_set hos hc, by simpa using hol, ?_, fun q h1 h2 => ?_⟩
   ·rw [z_loop6]
    simp only [f64_l3, rlen hw', n_lss, decide_eq_false hlt, z_guard, cond_false, z_gtr, decide_eq_true hcp, f64_j4, z_cond, cond_true]
    rw [n_addi _ (by omega), hwr.arr.load (rl_get h0), n_conv64 _ .u32 0 (by omega), n_add64 _ (by omega)]
    unfold f64_j6
    rw [n_addi _ (by omega), show (SV.int .u64 65536) = u64 65536 from rfl, n_rem _ .u64 _ (by decide), n_conv32, hm1, st, n_quo64 _ _ (by decide) (by omega), show (SV.int .i64 1) = i64 1 from rfl, n_addi _ (by omega)]
    rw [z_loop6]
    simp only [f64_l3, rlen (hw.fr hfr1), n_lss, decide_eq_false hlt2, z_guard, cond_false, z_gtr, decide_eq_false h00, f64_j4, z_cond]
    rw [show (SV.int .i64 1) = i64 1 from rfl, n_addi _ (by omega)]
   ·rw [<- hv]
    rw [Nat.mul_comm c] at hvs
    omega
   ·rw [List.getElem?_set_ne (by omega)]
    exact hz q (by omega) (by simpa using h2)
 | m + 1, k, fuel, c, H, o, hkm, hf, hc, hos, hol, hfr, hwr, hz, hv => by
  obtain ⟨fuel, rfl⟩ : ∃ m, fuel = m + 1 := ⟨fuel - 1, by omega⟩
  have hlt : k < ys.length := by omega
  have hi : i < xs.length := (List.getElem?_eq_some_iff.1 hx).1
  have hw' := hw.fr hfr
  have ha' := ha.fr hfr
  obtain ⟨y, hy⟩ : ∃ y, ys[k]? = some y := ⟨_, List.getElem?_eq_getElem hlt⟩
  have hyD : y < 65536 := hys y (List.mem_of_getElem? hy)
  have hdb : ys.drop k = y :: ys.drop (k + 1) := List.drop_eq_getElem?_toList_append (l := ys) (i := k) ▸ by rw [hy]; rfl
  obtain ⟨z, hz1⟩ : ∃ z, o[i + k]? = some z := ⟨_, List.getElem?_eq_getElem (by omega)⟩
  have hzD : z < 65536 := hos z (List.mem_of_getElem? hz1)
  have hxy : x * y <= 65535 * 65535 := Nat.mul_le_mul (by omega) (by omega)
  obtain ⟨p, q, hp, hq, hpD, hqD, hpq⟩ : ∃ p q, (z + c + x * y) % 65536 = p /\ (z + c + x * y) / 65536 = q /\ p < D /\ q < 65536 /\ z + c + x * y = p + D * q := by
   refine ⟨_, _, rfl, rfl, Nat.mod_lt _ (by decide), by omega, (Nat.mod_add_div _ 65536).symm⟩
  have hm1 : p % 4294967296 = p := Nat.mod_eq_of_lt (by show p < 4294967296; have : p < 65536 := hpD; omega)
  obtain ⟨H1, st, hw1, f1, sz1, _⟩ := hwr.store (i := i + k) (by simp; omega) (x := u32 p) rfl .i64
  rw [rl_set] at hw1
  have hvs := rval_set (z := p) hz1
  obtain ⟨o', H', h1, h2, h3, h4, h5, h6, h7⟩ := rmul_in C K lo ha hw hlo hys k11 hx hxD hla hlb (S := S) m (k + 1) fuel q H1 (o.set (i + k) p) (by omega) (by omega) hqD (rsmall_set hos hpD) (by simpa using hol) (Fr.trans hfr (by rw [<- hlo]; exact f1)) hw1 (fun t q1 q2 => by
    rw [List.getElem?_set_ne (by omega)]
    exact hz t q1 (by simpa using q2)) (by
    rw [<- hv, hdb]
    simp only [rval]
    rw [show i + (k + 1) = (i + k) + 1 by omega, Nat.pow_succ]
    generalize rval (ys.drop (k + 1)) = bv at *
    generalize D ^ (i + k) = P at *
    have e2 : P * (z + c + x * y) = P * (p + D * q) := by rw [hpq]
    have e3 : x * (D * bv) = D * (x * bv) := by rw [<- Nat.mul_assoc, Nat.mul_comm x D, Nat.mul_assoc]
    simp only [Nat.mul_add, Nat.mul_assoc, e3] at e2 hvs ⊢
    rw [Nat.mul_comm z P, Nat.mul_comm p P] at hvs
    omega)
  refine ⟨o', H', ?_, h2, h3, h4, h5, h6, h7⟩
  rw [z_loop6]
  simp only [f64_l3, rlen hw', n_lss, decide_eq_true hlt, z_guard, cond_true, f64_j4, z_cond]
  rw [n_addi _ (by omega), hwr.arr.load (rl_get hz1), n_conv64 _ .u32 z (by omega), n_add64 _ (by omega)]
  simp only [rlen hw', n_lss, decide_eq_true hlt, z_cond, cond_true, ha'.load (rl_get hx), hw'.load (rl_get hy)]
  rw [n_conv64 _ .u32 x (by omega), n_conv64 _ .u32 y (by omega), n_mul64 _ (by omega), n_add64 _ (by omega)]
  unfold f64_j6
  rw [n_addi _ (by omega), show (SV.int .u64 65536) = u64 65536 from rfl, n_rem _ .u64 _ (by decide), n_conv32, hp, hm1, st, n_quo64 _ _ (by decide) (by omega), hq, show (SV.int .i64 1) = i64 1 from rfl, n_addi _ (by omega)]
  exact h1
theorem rmul_out (K : Nat) (d : Nat) (lo : Nat) {H0 : Heap} {v va w : SV} {xs ys : List Nat} (ha : Arr H0 va (rl xs)) (hw : Arr H0 w (rl ys)) (hlo : lo = H0.size) (hxs : RSmall xs) (hys : RSmall ys) (hla : xs.length < 10000000) (hlb : ys.length < 10000000) (hK : xs.length + ys.length + 2 < K) {r : Nat} : ∀ (m i fuel : Nat) (H : Heap) (o : List Nat), i + m = xs.length -> m < fuel -> RSmall o -> o.length = xs.length + ys.length -> Frame H0 H -> Wr lo H v r [] (rl o) [] -> (∀ q, i + ys.length <= q -> q < o.length -> o[q]? = some 0) -> rval o + D ^ i * (rval (xs.drop i) * rval ys) = rval xs * rval ys ->
  ∃ rr H', slow.loop4 (f64_l1 slow K (runQ wk tab slow K (d + 1))) fuel va w v (i64 i) H = some (rr, H') /\ Frame H0 H' /\ IsR H' rr (rval xs * rval ys)
 | 0, i, fuel, H, o, hij, hf, hos, hol, hfr, hwr, hz, hv => by
  obtain ⟨fuel, rfl⟩ : ∃ m, fuel = m + 1 := ⟨fuel - 1, by omega⟩
  have hi : i = xs.length := by omega
  subst hi
  rw [List.drop_length] at hv
  have hvo : rval o = rval xs * rval ys := by simpa [rval] using hv
  obtain ⟨sl, h2, h3, _⟩ := rcut_ok K d H (ds := o) hwr.arr hos (by omega) (by omega)
  rw [hvo] at h3
  rw [z_loop4]
  have hlt : ¬ (xs.length < xs.length) := Nat.lt_irrefl _
  simp only [f64_l1, rlen (ha.fr hfr), n_lss, decide_eq_false hlt, z_cond, cond_false, h2, z_call, z_rest h3.good]
  exact ⟨_, H, rfl, hfr, h3⟩
 | m + 1, i, fuel, H, o, hij, hf, hos, hol, hfr, hwr, hz, hv => by
  obtain ⟨fuel, rfl⟩ : ∃ m, fuel = m + 1 := ⟨fuel - 1, by omega⟩
  have hlt : i < xs.length := by omega
  obtain ⟨x, hx⟩ : ∃ x, xs[i]? = some x := ⟨_, List.getElem?_eq_getElem hlt⟩
  have hdx : xs.drop i = x :: xs.drop (i + 1) := List.drop_eq_getElem?_toList_append (l := xs) (i := i) ▸ by rw [hx]; rfl
  obtain ⟨o', H1, h1, f1, w1, s1, l1, v1, z1⟩ := rmul_in (runQ wk tab slow K (d + 1)) K lo ha hw hlo hys (slow.loop4 (f64_l1 slow K (runQ wk tab slow K (d + 1))) fuel) hx (hxs x (List.mem_of_getElem? hx)) hla hlb (S := rval o + D ^ i * (x * rval ys)) ys.length 0 K 0 H o (by omega) (by omega) (by decide) hos hol hfr hwr hz (by rw [List.drop_zero]; simp)
  obtain ⟨rr, H2, h2, f2, n2⟩ := rmul_out K d lo ha hw hlo hxs hys hla hlb hK m (i + 1) fuel H1 o' (by omega) (by omega) s1 l1 f1 w1 z1 (by
   rw [v1, <- hv, hdx, Nat.pow_succ]
   simp only [rval]
   generalize rval (xs.drop (i + 1)) = xv
   generalize rval ys = bv
   generalize D ^ i = P
   simp only [Nat.mul_add, Nat.add_mul, Nat.mul_assoc]
   omega)
  refine ⟨rr, H2, ?_, f2, n2⟩
  rw [z_loop4]
  simp only [f64_l1, rlen (ha.fr hfr), n_lss, decide_eq_true hlt, z_cond, cond_true]
  rw [show (SV.int .u64 0) = u64 0 from rfl, show (SV.int .i64 0) = i64 0 from rfl, h1]
  exact h2
theorem rmul01_ok (K : Nat) (d : Nat) (H : Heap) {v w : SV} {a b : Nat} (hx : IsR H v a) (hy : IsR H w b) (hla : (rdigs a).length < 10000000) (hlb : (rdigs b).length < 10000000) (hK : (rdigs a).length + (rdigs b).length + 2 < K) :
  ∃ r H', runQ wk tab slow K (d + 2) 64 [v, w] H = some (r, H') /\ Frame H H' /\ IsR H' r (a * b) := by
 show ∃ r H', f64 slow K (runQ wk tab slow K (d + 1)) v w H = _ /\ _
 simp only [f64, rlen hx, rlen hy]
 rw [n_addi _ (by omega)]
 obtain ⟨u, H1, h1, w1, f1, ru, _, _⟩ := z_makeW (H := H) (lo := H.size) (Nat.le_refl _) 4 (.int .u32 0) ((rdigs a).length + (rdigs b).length) (by omega) (roomy_small (by omega)) .i64 .i64
 rw [rl_zeros] at w1
 rw [h1]
 have := rmul_out K d H.size hx hy rfl (rdigs_small a) (rdigs_small b) hla hlb hK (rdigs a).length 0 K H1 (List.replicate ((rdigs a).length + (rdigs b).length) 0) (by omega) (by omega) (rsmall_zeros _) (by simp) f1 w1 (fun q _ h => by rw [List.getElem?_replicate]; rw [List.length_replicate] at h; rw [if_pos h]) (by rw [rval_zeros, List.drop_zero]; simp)
 rw [rval_digs, rval_digs] at this
 exact this
theorem rdigs_lt (n : Nat) : n < D ^ (rdigs n).length := by have := rval_lt (rdigs_small n); rwa [rval_digs] at this
theorem rdigs_mono {a b : Nat} (h : a <= b) : (rdigs a).length <= (rdigs b).length := rdigs_len_le (Nat.lt_of_le_of_lt h (rdigs_lt b))
theorem rdiv_in (K : Nat) (d : Nat) {H0 : Heap} {va w v rv : SV} {ds : List Nat} {b R : Nat} (lo : Nat) (hlo : lo = H0.size) (hw : IsR H0 w b) (hbl : (rdigs b).length < 1000000) (hK : 3000000 < K) {r : Nat} {Hr : Heap} (hrv : IsR Hr rv R) (hfr0 : Frame H0 Hr) (hwr : Wr lo Hr v r [] (rl ds) []) {i : Nat} (hi : i < ds.length) (hi9 : i < 1000000) (hRl : (rdigs R).length < 2000000) (hb : 0 < b) (hnr : ¬ inRow rv r) (k12 : SV -> SV -> SV -> SV -> SV -> Heap -> Rs) : ∀ (n low high fuel : Nat) (H : Heap), high - low <= n -> n < fuel -> low < high -> high <= 65536 -> low * b <= R -> R < high * b -> Frame Hr H ->
  ∃ rv' H', slow.loop7 (f92_l3 slow K (runQ wk tab slow K (d + 2)) k12) fuel va w v rv (i64 i) (u64 low) (u64 high) H = k12 va w v rv' (.int .i64 ((i : Int) - 1)) H' /\ Frame H0 H' /\ Wr lo H' v r [] (rl (ds.set i (R / b))) [] /\ IsR H' rv' (R % b) /\ ¬ inRow rv' r
 | n, low, high, fuel, H, hn, hf, hlh, hh, h1, h2, hfr => by
  obtain ⟨fuel, rfl⟩ : ∃ m, fuel = m + 1 := ⟨fuel - 1, by omega⟩
  rw [z_loop7]
  have hf0 : Frame H0 H := Frame.trans hfr0 hfr
  by_cases hg : high - low > 1
  ·have hgi : ((high - low : Nat) : Int) > 1 := by omega
   obtain ⟨mv, H1, e1, f1, m1⟩ := rof_ok K (by omega) (d + 1) H (n := (low + high) / 2) (by omega)
   have hml : (rdigs ((low + high) / 2)).length <= 4 := rdigs_len64 (by omega)
   obtain ⟨pv, H2, e2, f2, p2⟩ := rmul01_ok K d H1 m1 (hw.fr (Frame.trans hf0 f1)) (by omega) (by omega) (by omega)
   have f12 := Frame.trans f1 f2
   have hrH := hrv.fr (Frame.trans hfr f12)
   have hpl : (rdigs ((low + high) / 2 * b)).length <= (rdigs ((low + high) / 2)).length + (rdigs b).length := rdigs_len_le (by
    rw [Nat.pow_add]
    exact Nat.mul_lt_mul'' (rdigs_lt _) (rdigs_lt _))
   have e3 := rcmp_ok K (d + 1) H2 p2 hrH (by omega) (by omega)
   by_cases hle : (low + high) / 2 * b <= R
   ·have hcm : cmpN ((low + high) / 2 * b) R <= 0 := by unfold cmpN; split; omega; split; omega; omega
    obtain ⟨rv', H', g1, g2, g3, g4⟩ := rdiv_in K d lo hlo hw hbl hK hrv hfr0 hwr hi hi9 hRl hb hnr k12 (n - 1) ((low + high) / 2) high fuel H2 (by omega) (by omega) (by omega) hh hle h2 (Frame.trans hfr f12)
    refine ⟨rv', H', ?_, g2, g3, g4⟩
    simp only [f92_l3]
    rw [n_sub64 _ (by omega) (by omega), z_gtr, decide_eq_true hgi, z_cond, cond_true, n_add64 _ (by omega), show (SV.int .u64 2) = u64 2 from rfl, n_quo64 _ _ (by decide) (by omega), e1, z_call, e2, z_call, e3, z_call, z_leq, decide_eq_true hcm, z_cond, cond_true]
    exact g1
   ·have hcm : ¬ cmpN ((low + high) / 2 * b) R <= 0 := by unfold cmpN; rw [if_neg (by omega), if_pos (by omega)]; omega
    obtain ⟨rv', H', g1, g2, g3, g4⟩ := rdiv_in K d lo hlo hw hbl hK hrv hfr0 hwr hi hi9 hRl hb hnr k12 (n - 1) low ((low + high) / 2) fuel H2 (by omega) (by omega) (by omega) (by omega) h1 (by omega) (Frame.trans hfr f12)
    refine ⟨rv', H', ?_, g2, g3, g4⟩
    simp only [f92_l3]
    rw [n_sub64 _ (by omega) (by omega), z_gtr, decide_eq_true hgi, z_cond, cond_true, n_add64 _ (by omega), show (SV.int .u64 2) = u64 2 from rfl, n_quo64 _ _ (by decide) (by omega), e1, z_call, e2, z_call, e3, z_call, z_leq, decide_eq_false hcm, z_cond, cond_false]
    exact g1
  ·have hgi : ¬ ((high - low : Nat) : Int) > 1 := by omega
   have hhl : high = low + 1 := by omega
   subst hhl
   have hq : R / b = low := by
    rw [Nat.div_eq_iff hb]
    rw [Nat.succ_mul] at h2
    constructor
    ·exact h1
    ·omega
   have hwrH := hwr.fr hfr
   have hlm : low % 4294967296 = low := Nat.mod_eq_of_lt (by omega)
   obtain ⟨H1, st, hw1, f1, sz1, hro⟩ := hwrH.store (i := i) (by simpa using hi) (x := u32 low) rfl .i64
   rw [rl_set] at hw1
   have hf1 : Frame H0 H1 := Fr.trans hf0 (by rw [<- hlo]; exact f1)
   have hrv1 : IsR H1 rv R := Arr.of_rows (hrv.fr hfr) fun q hq => hro q fun e => hnr (e ▸ hq)
   obtain ⟨mv, H2, e1, f2, m1⟩ := rof_ok K (by omega) (d + 1) H1 (n := low) (by omega)
   have hml : (rdigs low).length <= 4 := rdigs_len64 (by omega)
   obtain ⟨pv, H3, e2, f3, p2⟩ := rmul01_ok K d H2 m1 (hw.fr (Frame.trans hf1 f2)) (by omega) (by omega) (by omega)
   have f23 := Frame.trans f2 f3
   obtain ⟨sv, H4, e3, f4, p4, hnew⟩ := rsub_ok K d H3 (hrv1.fr f23) p2 h1 (by omega) (by omega)
   have f24 := Frame.trans f23 f4
   have hmod : R - low * b = R % b := by
    have := Nat.div_add_mod R b
    rw [hq, Nat.mul_comm] at this
    omega
   rw [hmod] at p4
   refine ⟨sv, H4, ?_, Frame.trans hf1 f24, ?_, p4, fun hin => ?_⟩
   ·simp only [f92_l3]
    rw [n_sub64 _ (by omega) (by omega), z_gtr, decide_eq_false hgi, z_cond, cond_false, n_conv32, hlm, st, e1, z_call, e2, z_call, e3, z_call, z_sub64 (by omega) (by omega)]
   ·rw [hq]; exact hw1.fr f24
   ·have h5 := hnew r hin
    have h6 := hw1.lt
    have h7 := f23.size
    omega
theorem rdiv_out (K : Nat) (d : Nat) {H0 : Heap} {va w v : SV} {xs : List Nat} {b : Nat} (ha : Arr H0 va (rl xs)) (hxs : RSmall xs) (hxl : xs.length < 1000000) (hw : IsR H0 w b) (hb : 0 < b) (hbl : (rdigs b).length < 900000) (hK : 3000000 < K) {r : Nat} (hroot : v.flat = true) : ∀ (n fuel : Nat) (H : Heap) (rv : SV) (qs : List Nat), n <= xs.length -> n < fuel -> Frame H0 H -> Wr H0.size H v r [] (rl (List.replicate n 0 ++ qs)) [] -> RSmall qs -> qs.length = xs.length - n -> rval qs = rval (xs.drop n) / b -> IsR H rv (rval (xs.drop n) % b) -> ¬ inRow rv r ->
  ∃ qv rv' H', slow.loop5 (f92_l1 slow K (runQ wk tab slow K (d + 3))) fuel va w v rv (.int .i64 ((n : Int) - 1)) H = some (.tuple [qv, rv'], H') /\ Frame H0 H' /\ IsR H' qv (rval xs / b) /\ IsR H' rv' (rval xs % b)
 | 0, fuel, H, rv, qs, hn, hf, hfr, hwr, hqs, hql, hqv, hrv, hnr => by
  obtain ⟨fuel, rfl⟩ : ∃ m, fuel = m + 1 := ⟨fuel - 1, by omega⟩
  rw [z_loop5]
  have h0 : ¬ (((0 : Nat) : Int) - 1 >= 0) := by omega
  simp only [List.replicate_zero, List.nil_append] at hwr
  rw [List.drop_zero] at hqv hrv
  obtain ⟨sl, h2, h3, _⟩ := rcut_ok K (d + 2) H (ds := qs) hwr.arr hqs (by omega) (by omega)
  rw [hqv] at h3
  refine ⟨sl, rv, H, ?_, hfr, h3, hrv⟩
  simp only [f92_l1, z_geq, decide_eq_false h0, z_cond, cond_false, h2, z_call, z_rest h3.good, z_rest hrv.good]
 | n + 1, fuel, H, rv, qs, hn, hf, hfr, hwr, hqs, hql, hqv, hrv, hnr => by
  obtain ⟨fuel, rfl⟩ : ∃ m, fuel = m + 1 := ⟨fuel - 1, by omega⟩
  rw [z_loop5]
  have h0 : ((n + 1 : Nat) : Int) - 1 >= 0 := by omega
  have e : (((n + 1 : Nat) : Int) - 1) = (n : Int) := by omega
  obtain ⟨x, hx⟩ : ∃ x, xs[n]? = some x := ⟨_, List.getElem?_eq_getElem (by omega)⟩
  have hxD : x < 65536 := hxs x (List.mem_of_getElem? hx)
  have hdx : xs.drop n = x :: xs.drop (n + 1) := List.drop_eq_getElem?_toList_append (l := xs) (i := n) ▸ by rw [hx]; rfl
  generalize hT : rval (xs.drop (n + 1)) = T at *
  obtain ⟨u, H1, hu, hou, hfu, _, _⟩ := z_lay1 (H := H) (lo := H.size) (Nat.le_refl _) (.int .u32 0) (x := u32 x) rfl
  have hrl : (rdigs (T % b)).length <= (rdigs b).length := rdigs_mono (Nat.le_of_lt (Nat.mod_lt _ hb))
  obtain ⟨u', H2, ha2, ho2, f2, hro2, hin2, _⟩ := hou.append hfu.size (hrv.fr hfu) (by_ := 4) (roomy_small (by simp; omega))
  have e1 : [u32 x] ++ rl (rdigs (T % b)) = rl (x :: rdigs (T % b)) := rfl
  rw [e1] at ho2
  have hRe : rval (x :: rdigs (T % b)) = x + D * (T % b) := by simp only [rval, rval_digs]
  have hsm : RSmall (x :: rdigs (T % b)) := fun q hq => by
   rcases List.mem_cons.1 hq with rfl | hq
   ·exact hxD
   ·exact rdigs_small _ q hq
  obtain ⟨sl, h3, h4, hin⟩ := rcut_ok K (d + 2) H2 (ds := x :: rdigs (T % b)) ho2.arr hsm (by simp; omega) (by simp; omega)
  rw [hRe] at h4
  have f12 : Frame H H2 := Fr.trans hfu f2
  have hrlt := hwr.lt
  have hnr2 : ¬ inRow sl r := fun hi => by
   have := Own.ge ho2 (hin r hi)
   omega
  have hR1 : x + D * (T % b) < 65536 * b := by
   have h5 := Nat.mod_lt T hb
   show x + 65536 * (T % b) < 65536 * b
   have := Nat.mul_le_mul_left 65536 (Nat.succ_le_of_lt h5)
   omega
  have hRlen : (rdigs (x + D * (T % b))).length <= (rdigs b).length + 1 := rdigs_len_le (by
   rw [Nat.pow_succ]
   have h6 := rdigs_lt b
   have : 65536 * b <= D ^ (rdigs b).length * D := by rw [Nat.mul_comm]; exact Nat.mul_le_mul_right _ (Nat.le_of_lt h6)
   omega)
  obtain ⟨rv', H3, h5, f3, w3, r3, n3⟩ := rdiv_in K (d + 1) H0.size rfl hw (by omega) hK h4 (Frame.trans hfr f12) (hwr.fr f12) (i := n) (by simp; omega) (by omega) (by omega) hb hnr2 (slow.loop5 (f92_l1 slow K (runQ wk tab slow K (d + 3))) fuel) 65536 0 65536 K H2 (by omega) (by omega) (by omega) (by omega) (by omega) hR1 (Fr.refl _ _)
  have hset : (List.replicate (n + 1) 0 ++ qs).set n ((x + D * (T % b)) / b) = List.replicate n 0 ++ ((x + D * (T % b)) / b :: qs) := by
   rw [List.set_append_left _ _ (by simp), List.replicate_succ', List.set_append_right _ _ (by simp)]
   simp
  rw [hset] at w3
  have hTd := Nat.div_add_mod T b
  have hval : rval (xs.drop n) = b * (D * (T / b)) + (x + D * (T % b)) := by
   rw [hdx, rval, hT]
   conv => lhs; rw [<- hTd]
   rw [Nat.mul_add, <- Nat.mul_assoc D b, Nat.mul_comm D b, Nat.mul_assoc b D]
   omega
  obtain ⟨qv, rv2, H4, h7, f7, q7, r7⟩ := rdiv_out K d ha hxs hxl hw hb hbl hK hroot n fuel H3 rv' ((x + D * (T % b)) / b :: qs) (by omega) (by omega) f3 w3 (fun q hq => by
   rcases List.mem_cons.1 hq with rfl | hq
   ·rw [Nat.div_lt_iff_lt_mul hb]; exact hR1
   ·exact hqs q hq) (by simp [hql]; omega) (by
   rw [hval, rval, hqv, Nat.mul_add_div hb]; omega) (by rw [hval, Nat.mul_add_mod]; exact r3) n3
  refine ⟨qv, rv2, H4, ?_, f7, q7, r7⟩
  simp only [f92_l1, z_geq, decide_eq_true h0, z_cond, cond_true]
  rw [e, (ha.fr hfr).load (rl_get hx), hu, ha2, h3, z_call, show (SV.int .u64 0) = u64 0 from rfl, show (SV.int .u64 65536) = u64 65536 from rfl, h5]
  exact h7
theorem rdiv_ok (K : Nat) (d : Nat) (H : Heap) {v w : SV} {a b : Nat} (hx : IsR H v a) (hy : IsR H w b) (hb : 0 < b) (hla : (rdigs a).length < 900000) (hlb : (rdigs b).length < 900000) (hK : 3000000 < K) :
  ∃ q r H', runQ wk tab slow K (d + 4) 92 [v, w] H = some (.tuple [q, r], H') /\ Frame H H' /\ IsR H' q (a / b) /\ IsR H' r (a % b) := by
 show ∃ q r H', f92 slow K (runQ wk tab slow K (d + 3)) v w H = _ /\ _
 simp only [f92, rlen hx]
 obtain ⟨u, H1, h1, w1, f1, ru, uf, _⟩ := z_makeW (H := H) (lo := H.size) (Nat.le_refl _) 4 (.int .u32 0) (rdigs a).length (by omega) (roomy_small (by omega)) .i64 .i64
 rw [rl_zeros] at w1
 rw [h1, z_sub64 (by omega) (by omega)]
 have := rdiv_out K d hx (rdigs_small a) (by omega) hy hb hlb hK uf (rdigs a).length K H1 (.slice nilSl) [] (Nat.le_refl _) (by omega) f1 (by simpa using w1) (fun q hq => by cases hq) (by simp) (by rw [List.drop_length]; simp [rval]) (by rw [List.drop_length]; simp only [rval, Nat.zero_mod]; exact IsR.zero (Arr.nil _)) (not_inRow_nil _)
 rw [rval_digs] at this
 exact this
end Go.Sh.Of
namespace Go.Sh.Of
open Go
theorem rsm_loop (C : CallC) (K : Nat) (H : Heap) {v : SV} {ds : List Nat} (hv : Arr H v (rl ds)) (hs : RSmall ds) (hl : ds.length <= 4) : ∀ (n fuel : Nat), n <= ds.length -> n < fuel ->
  slow.loop3 (f98_l2 slow K C) fuel v (u64 (rval (ds.drop n))) (.int .i64 ((n : Int) - 1)) H = some (.tuple [u64 (rval ds), .bool true], H)
 | 0, fuel, hn, hf => by
  obtain ⟨fuel, rfl⟩ : ∃ m, fuel = m + 1 := ⟨fuel - 1, by omega⟩
  rw [z_loop3]
  have h0 : ¬ (((0 : Nat) : Int) - 1 >= 0) := by omega
  rw [List.drop_zero]
  simp only [f98_l2, z_geq, decide_eq_false h0, z_cond, cond_false, z_rest_int]
 | n + 1, fuel, hn, hf => by
  obtain ⟨fuel, rfl⟩ : ∃ m, fuel = m + 1 := ⟨fuel - 1, by omega⟩
  rw [z_loop3]
  have h0 : ((n + 1 : Nat) : Int) - 1 >= 0 := by omega
  have e : (((n + 1 : Nat) : Int) - 1) = (n : Int) := by omega
  obtain ⟨x, hx⟩ : ∃ x, ds[n]? = some x := ⟨_, List.getElem?_eq_getElem (by omega)⟩
  have hxD : x < 65536 := hs x (List.mem_of_getElem? hx)
  have hdx : ds.drop n = x :: ds.drop (n + 1) := List.drop_eq_getElem?_toList_append (l := ds) (i := n) ▸ by rw [hx]; rfl
  have hsd : RSmall (ds.drop (n + 1)) := fun q hq => hs q (List.mem_of_mem_drop hq)
  have hlt := rval_lt hsd
  have hle : D ^ (ds.drop (n + 1)).length <= D ^ 3 := Nat.pow_le_pow_right (by decide) (by simp; omega)
  have h3 : D ^ 3 = 281474976710656 := by decide
  have hR : rval (ds.drop n) = rval (ds.drop (n + 1)) * 65536 + x := by
   rw [hdx, rval, Nat.mul_comm (rval _) 65536, Nat.add_comm]; rfl
  have ih := rsm_loop C K H hv hs hl n fuel (by omega) (by omega)
  rw [hR] at ih
  simp only [f98_l2, z_geq, decide_eq_true h0, z_cond, cond_true]
  rw [show (SV.int .u64 65536) = u64 65536 from rfl, n_mul64 _ (by omega), e, hv.load (rl_get hx), n_conv64 _ .u32 x (by omega), n_add64 _ (by omega), z_sub64 (by omega) (by omega)]
  exact ih
theorem rsm_ok (K : Nat) (d : Nat) (H : Heap) {v : SV} {n : Nat} (hv : IsR H v n) (hl : (rdigs n).length <= 4) (hK : 10 < K) :
  runQ wk tab slow K (d + 1) 98 [v] H = some (.tuple [u64 n, .bool true], H) := by
 show f98 slow K (runQ wk tab slow K d) v H = _
 have h4 : ¬ ((rdigs n).length > 4) := by omega
 simp only [f98, rlen hv]
 rw [show (SV.int .i64 4) = i64 4 from rfl, n_gtr, decide_eq_false h4, z_cond, cond_false, z_sub64 (by omega) (by omega)]
 have := rsm_loop (runQ wk tab slow K d) K H hv (rdigs_small n) hl (rdigs n).length K (Nat.le_refl _) (by omega)
 rw [List.drop_length, rval_digs] at this
 exact this
theorem z_str1 {H : Heap} {v : SV} {d : Nat} (h : Arr H v [u8 (48 + d)]) (hd : d < 10) (k : K1) : slow.str v H k = k (.str [chr d]) := by
 obtain ⟨s, rfl, e1, e2⟩ := h.elems
 have hb : bytesOf [u8 (48 + d)] = some [chr d] := bytes_chrs [d] (by simpa using hd)
 show ((opR .str [.slice s] H).bind _) = _
 simp only [opR, e2, Option.bind_some, hb, Option.map_some]
theorem rtext_in (C : CallC) (K : Nat) {m : Nat} (q : SV) (k7 : SV -> SV -> Heap -> Rs) (N : Nat) (hN : N < 1000000000) : ∀ (j i x fuel : Nat) (H : Heap) (pre : List Nat), i + j = 4 -> j < fuel -> x < 10 ^ j -> IsR H q m -> pre.length + (decLE (x + 10 ^ j * m)).length <= N ->
  ∃ H' pre', slow.loop4 (f70_l4 slow K C k7) fuel (.str (pre.reverse.map chr)) q (u64 x) (i64 i) H = k7 q (.str (pre'.reverse.map chr)) H' /\ Frame H H' /\ pre' ++ decLE m = pre ++ decLE (x + 10 ^ j * m)
 | 0, i, x, fuel, H, pre, hij, hf, hx, hq, hlen => by
  obtain ⟨fuel, rfl⟩ : ∃ m, fuel = m + 1 := ⟨fuel - 1, by omega⟩
  have hx0 : x = 0 := by simpa using hx
  subst hx0
  have h4 : ¬ (i < 4) := by omega
  refine ⟨H, pre, ?_, Fr.refl _ _, by simp⟩
  rw [z_loop4]
  simp only [f70_l4]
  rw [show (SV.int .i64 4) = i64 4 from rfl, n_lss, decide_eq_false h4, z_guard, cond_false]
  simp only [f70_j5, z_cond, cond_false]
 | j + 1, i, x, fuel, H, pre, hij, hf, hx, hq, hlen => by
  obtain ⟨fuel, rfl⟩ : ∃ m, fuel = m + 1 := ⟨fuel - 1, by omega⟩
  have h4 : i < 4 := by omega
  have hxs : x < 10000 := Nat.lt_of_lt_of_le hx (Nat.pow_le_pow_right (n := 10) (by decide) (show j + 1 <= 4 by omega))
  by_cases h0 : m = 0 /\ x = 0
  ·obtain ⟨rfl, rfl⟩ := h0
   refine ⟨H, pre, ?_, Fr.refl _ _, by simp⟩
   have hl : ¬ ((rdigs 0).length > 0) := by rw [rdigs_zero]; simp
   have hz : ¬ (0 > 0) := by omega
   rw [z_loop4]
   simp only [f70_l4]
   rw [show (SV.int .i64 4) = i64 4 from rfl, n_lss, decide_eq_true h4, z_guard, cond_true, rlen hq, show (SV.int .i64 0) = i64 0 from rfl, n_gtr, decide_eq_false hl, z_guard, cond_false, show (SV.int .u64 0) = u64 0 from rfl, n_gtr, decide_eq_false hz]
   simp only [f70_j5, z_cond, cond_false]
  ·have hP : x + 10 ^ (j + 1) * m = x + 10 * (10 ^ j * m) := by rw [Nat.pow_succ, Nat.mul_comm (10 ^ j) 10, Nat.mul_assoc]
   have hne : x + 10 ^ (j + 1) * m ≠ 0 := by
    intro e
    have h1 : x = 0 := by omega
    have h2 : 10 ^ (j + 1) * m = 0 := by omega
    rcases Nat.mul_eq_zero.1 h2 with h3 | h3
    ·exact absurd h3 (Nat.ne_of_gt (Nat.pow_pos (by decide)))
    ·exact h0 ⟨h3, h1⟩
   have hdl : decLE (x + 10 ^ (j + 1) * m) = x % 10 :: decLE (x / 10 + 10 ^ j * m) := by
    rw [decLE_pos hne, hP]
    rw [show (x + 10 * (10 ^ j * m)) % 10 = x % 10 by omega, show (x + 10 * (10 ^ j * m)) / 10 = x / 10 + 10 ^ j * m by omega]
   rw [hdl] at hlen
   have hd10 : x % 10 < 10 := Nat.mod_lt _ (by decide)
   obtain ⟨u, H1, hu, hou, hfu, _, _⟩ := z_lay1 (H := H) (lo := H.size) (Nat.le_refl _) (.int .u8 0) (x := u8 (48 + x % 10)) rfl
   have hpx : x / 10 < 10 ^ j := by
    rw [Nat.div_lt_iff_lt_mul (by decide), <- Nat.pow_succ]; exact hx
   rw [List.length_cons] at hlen
   obtain ⟨H2, pre', h5, f2, hp⟩ := rtext_in C K q k7 N hN j (i + 1) (x / 10) fuel H1 (pre ++ [x % 10]) (by omega) (by omega) hpx (hq.fr hfu) (by simp; omega)
   refine ⟨H2, pre', ?_, Frame.trans hfu f2, by rw [hp, hdl]; simp⟩
   have hs : [chr (x % 10)] ++ pre.reverse.map chr = (pre ++ [x % 10]).reverse.map chr := by simp
   have hm8 : (48 + x % 10) % 256 = 48 + x % 10 := Nat.mod_eq_of_lt (by omega)
   have hj : f70_j5 slow K C k7 (slow.loop4 (f70_l4 slow K C k7) fuel) (.str (pre.reverse.map chr)) q (u64 x) (i64 i) (.bool true) H = k7 q (.str (pre'.reverse.map chr)) H2 := by
    simp only [f70_j5, z_cond, cond_true]
    rw [show (SV.int .u64 10) = u64 10 from rfl, n_rem _ .u64 _ (by decide), show (SV.int .u64 48) = u64 48 from rfl, n_add64 _ (by omega), n_conv8, hm8, hu, z_str1 hou.arr hd10, z_sadd _ (by simp; omega), n_quo64 _ _ (by decide) (by omega), show (SV.int .i64 1) = i64 1 from rfl, n_addi _ (by omega), hs]
    exact h5
   rw [z_loop4]
   simp only [f70_l4]
   rw [show (SV.int .i64 4) = i64 4 from rfl, n_lss, decide_eq_true h4, z_guard, cond_true, rlen hq, show (SV.int .i64 0) = i64 0 from rfl, n_gtr]
   by_cases hm : (rdigs m).length > 0
   ·rw [decide_eq_true hm, z_guard, cond_true]
    exact hj
   ·have hx0 : x > 0 := by
     have : rdigs m = [] := List.length_eq_zero_iff.1 (by omega)
     have := rdigs_nil.1 this
     omega
    rw [decide_eq_false hm, z_guard, cond_false, show (SV.int .u64 0) = u64 0 from rfl, n_gtr, decide_eq_true hx0]
    exact hj
theorem rtext_out (K : Nat) (d : Nat) (N : Nat) (hN : N < 1000000000) (hK : 3000000 < K) {n : Nat} (hdec : (decLE n).length <= N) : ∀ (m fuel : Nat) (H : Heap) (v : SV) (pre : List Nat), (decLE m).length < fuel -> IsR H v m -> (rdigs m).length < 900000 -> pre ++ decLE m = decLE n ->
  ∃ H', slow.loop2 (f70_l2 slow K (runQ wk tab slow K (d + 4))) fuel v (.str (pre.reverse.map chr)) H = some (.str ((decLE n).reverse.map chr), H') /\ Frame H H' := by
 intro m
 induction m using Nat.strongRecOn with
 | ind m ih =>
  intro fuel H v pre hf hv hl hpre
  obtain ⟨fuel, rfl⟩ : ∃ m, fuel = m + 1 := ⟨fuel - 1, by omega⟩
  rw [z_loop2]
  by_cases h0 : m = 0
  ·subst h0
   rw [decLE_zero, List.append_nil] at hpre
   subst hpre
   have hz : ¬ ((rdigs 0).length > 0) := by rw [rdigs_zero]; simp
   refine ⟨H, ?_, Fr.refl _ _⟩
   simp only [f70_l2, rlen hv]
   rw [show (SV.int .i64 0) = i64 0 from rfl, n_gtr, decide_eq_false hz, z_cond, cond_false, z_rest_str]
  ·have hpos : (rdigs m).length > 0 := List.length_pos_iff.2 fun e => h0 (rdigs_nil.1 e)
   obtain ⟨tv, H1, e1, f1, t1⟩ := rof_ok K (by omega) (d + 3) H (n := 10000) (by decide)
   have htl : (rdigs 10000).length <= 4 := rdigs_len64 (by decide)
   obtain ⟨qv, rv, H2, e2, f2, q2, r2⟩ := rdiv_ok K d H1 (hv.fr f1) t1 (by decide) hl (by omega) hK
   have hmod : m % 10000 < 10000 := Nat.mod_lt _ (by decide)
   have hrl : (rdigs (m % 10000)).length <= 4 := rdigs_len64 (by omega)
   have e3 := rsm_ok K (d + 3) H2 r2 hrl (by omega)
   have e10 : m % 10000 + 10 ^ 4 * (m / 10000) = m := Nat.mod_add_div m 10000
   obtain ⟨H3, pre', h5, f3, hp⟩ := rtext_in (runQ wk tab slow K (d + 4)) K qv (slow.loop2 (f70_l2 slow K (runQ wk tab slow K (d + 4))) fuel) N hN 4 0 (m % 10000) K H2 pre rfl (by omega) hmod q2 (by
    rw [e10, <- List.length_append, hpre]; exact hdec)
   rw [e10, hpre] at hp
   have hmlt : m / 10000 < m := Nat.div_lt_self (Nat.pos_of_ne_zero h0) (by decide)
   have hq : (decLE (m / 10000)).length < fuel := by
    have h1 := decLE_mono (show m / 10000 <= m / 10 by omega)
    rw [decLE_pos h0, List.length_cons] at hf
    omega
   have hql := rdigs_mono (Nat.le_of_lt hmlt)
   obtain ⟨H4, h6, f4⟩ := ih (m / 10000) hmlt fuel H3 qv pre' hq (q2.fr f3) (by omega) hp
   refine ⟨H4, ?_, Frame.trans f1 (Frame.trans f2 (Frame.trans f3 f4))⟩
   simp only [f70_l2, rlen hv]
   rw [show (SV.int .i64 0) = i64 0 from rfl, n_gtr, decide_eq_true hpos, z_cond, cond_true, show (SV.int .u64 10000) = u64 10000 from rfl, e1, z_call, e2, z_call, z_ext0, z_ext1, e3, z_call, z_ext0, z_ext1, h5]
   exact h6
theorem rtext_ok (K : Nat) (d : Nat) (H : Heap) {v : SV} {n : Nat} (hv : IsR H v n) (hK : 3000000 < K) (hd : (decLE n).length < 3000000) (hl : (rdigs n).length < 900000) :
  ∃ H', runQ wk tab slow K (d + 5) 70 [v] H = some (.str (dec n), H') /\ Frame H H' := by
 show ∃ H', f70 slow K (runQ wk tab slow K (d + 4)) v H = _ /\ _
 simp only [f70, rlen hv]
 rw [show (SV.int .i64 0) = i64 0 from rfl, n_eql]
 by_cases h0 : n = 0
 ·subst h0
  refine ⟨H, ?_, Fr.refl _ _⟩
  rw [rdigs_zero]
  simp only [List.length_nil, decide_true, z_cond, cond_true]
  rfl
 ·have hne : ¬ ((rdigs n).length = 0) := fun e => h0 (rdigs_nil.1 (List.length_eq_zero_iff.1 e))
  rw [decide_eq_false hne, z_cond, cond_false]
  obtain ⟨H1, h1, f1⟩ := rtext_out K d (decLE n).length (by omega) hK (Nat.le_refl _) n K H v [] (by omega) hv hl (by simp)
  refine ⟨H1, ?_, f1⟩
  have e : dec n = (decLE n).reverse.map chr := by rw [dec, if_neg h0]
  rw [e]
  exact h1
def IsRZ (H : Heap) (v : SV) (z : Int) : Prop := ∃ s, v = .agg [.bool (decide (z < 0)), .slice s] /\ IsR H (.slice s) z.natAbs
theorem IsRZ.fr {H H' : Heap} {v : SV} {z : Int} (h : IsRZ H v z) (hf : Frame H H') : IsRZ H' v z := by
 obtain ⟨s, h1, h2⟩ := h
 exact ⟨s, h1, Arr.fr h2 hf⟩
theorem z_build2s (b : Bool) (s : Sl) (k : K1) : slow.build [.bool false, .slice nilSl] [(0, 1), (1, 1)] [.bool b, .slice s] k = k (.agg [.bool b, .slice s]) := rfl
end Go.Sh.Of
namespace Go.Sh.Of
open Go
theorem IsRZ.keep {H H' : Heap} {v : SV} {z : Int} (h : IsRZ H v z) {X : Nat -> Prop} (hX : ∀ r row, X r -> H.get r = some row -> ∀ c ∈ row.cells, ∀ n, c ≠ .int .u32 n) (hro : ∀ r, ¬ X r -> r < H.size -> H'.get r = H.get r) : IsRZ H' v z := by
 obtain ⟨s, rfl, ha⟩ := h
 refine ⟨s, rfl, Arr.keepG ha (fun c0 hc0 r row hx hg c hc => ?_) hro⟩
 obtain ⟨d, _, rfl⟩ := List.mem_map.1 hc0
 exact hX r row hx hg c hc _
structure ArrE (H : Heap) (v : SV) (els : List (List SV)) : Prop where
 arr : ArrS 2 H v els
 esz : els = [] \/ ∀ s, v = .slice s -> ∀ a, eszOk H 2 s a = true
theorem esz_same {H H' : Heap} {s : Sl} (h : ∀ r o, s.base = some (r, o) -> H'.get r = H.get r) (a : Int) : eszOk H' 2 s a = eszOk H 2 s a := by
 unfold eszOk
 cases hb : s.base with
 | none => rfl
 | some p => simp only [h p.1 p.2 hb]
theorem ArrE.of {H H' : Heap} {v : SV} {els : List (List SV)} (h : ArrE H v els) (ha : ArrS 2 H' v els) (hr : els ≠ [] -> ∀ r, inRow v r -> H'.get r = H.get r) : ArrE H' v els := by
 refine ⟨ha, ?_⟩
 rcases h.esz with e | e
 ·exact .inl e
 ·by_cases h0 : els = []
  ·exact .inl h0
  ·exact .inr fun s hs a => (esz_same (fun r o hb => hr h0 r ⟨s, o, hs, hb⟩) a).trans (e s hs a)
theorem ArrS.row_lt {H : Heap} {v : SV} {els : List (List SV)} (h : ArrS 2 H v els) (h0 : els ≠ []) {r : Nat} (hr : inRow v r) : r < H.size := by
 obtain ⟨s, rfl, _, _, g⟩ := h
 obtain ⟨s', o, e, hb⟩ := hr
 cases e
 rcases g with g | ⟨r', o', row, b1, b2, _⟩
 ·exact absurd g h0
 ·rw [b1] at hb
  cases hb
  exact Heap.get_lt b2
theorem ArrE.fr {H H' : Heap} {v : SV} {els : List (List SV)} (h : ArrE H v els) (hf : Frame H H') : ArrE H' v els := h.of (h.arr.fr hf) fun h0 r hr => hf.rows r (ArrS.row_lt h.arr h0 hr)
theorem ArrE.len {H : Heap} {v : SV} {els : List (List SV)} (h : ArrE H v els) (k : K1) : slow.len v k = k (i64 els.length) := h.arr.len k
def IsRZs (H : Heap) (v : SV) (zs : List Int) : Prop := ∃ els, ArrE H v els /\ els.length = zs.length /\ ∀ (i : Nat) e z, els[i]? = some e -> zs[i]? = some z -> IsRZ H (.agg e) z
theorem IsRZs.fr {H H' : Heap} {v : SV} {zs : List Int} (h : IsRZs H v zs) (hf : Frame H H') : IsRZs H' v zs := by
 obtain ⟨els, h1, h2, h3⟩ := h
 exact ⟨els, h1.fr hf, h2, fun i e z he hz => (h3 i e z he hz).fr hf⟩
theorem IsRZs.len {H : Heap} {v : SV} {zs : List Int} (h : IsRZs H v zs) (k : K1) : slow.len v k = k (i64 zs.length) := by
 obtain ⟨els, h1, h2, h3⟩ := h
 rw [h1.len, h2]
theorem IsRZs.slice {H : Heap} {v : SV} {zs : List Int} (h : IsRZs H v zs) : isSlice v := by
 obtain ⟨els, ⟨⟨s, rfl, h1, _⟩, _⟩, h2, h3⟩ := h
 trivial
theorem IsRZs.keep {H H' : Heap} {v : SV} {zs : List Int} (h : IsRZs H v zs) {X : Nat -> Prop} (hv : ∀ r, inRow v r -> ¬ X r) (hX : ∀ r row, X r -> H.get r = some row -> ∀ c ∈ row.cells, ∀ n, c ≠ .int .u32 n) (hro : ∀ r, ¬ X r -> r < H.size -> H'.get r = H.get r) : IsRZs H' v zs := by
 obtain ⟨els, h1, h2, h3⟩ := h
 refine ⟨els, h1.of ?_ fun h0 r hr => hro r (hv r hr) (ArrS.row_lt h1.arr h0 hr), h2, fun i e z he hz => (h3 i e z he hz).keep hX hro⟩
 obtain ⟨⟨s, rfl, g1, g0, g3⟩, _⟩ := h1
 refine ⟨s, rfl, g1, g0, ?_⟩
 rcases g3 with g3 | ⟨r, o, row, b1, b2, b3, b4⟩
 ·exact .inl g3
 ·exact .inr ⟨r, o, row, b1, by rw [hro r (hv r ⟨s, o, rfl, b1⟩) (Heap.get_lt b2)]; exact b2, b3, b4⟩
theorem IsRZ.cell {H : Heap} {e : List SV} {z : Int} (h : IsRZ H (.agg e) z) : zCell e := by
 obtain ⟨s, e1, _⟩ := h
 cases e1
 exact ⟨_, _, rfl⟩
theorem IsRZs.keepS {H H' : Heap} {v : SV} {zs : List Int} (h : IsRZs H v zs) {X : Nat -> Prop} (hX : ∀ r row, X r -> H.get r = some row -> ∀ c ∈ row.cells, isSlice c) (hro : ∀ r, ¬ X r -> r < H.size -> H'.get r = H.get r) : IsRZs H' v zs := by
 obtain ⟨els, h1, h2, h3⟩ := h
 have hne : els ≠ [] -> ∀ r, inRow v r -> ¬ X r := fun h0 r hr hx => by
  obtain ⟨⟨s, rfl, g1, g0, g3⟩, _⟩ := h1
  obtain ⟨s', o', es, hb⟩ := hr
  cases es
  rcases g3 with g3 | ⟨r', o, row, b1, b2, b3, b4⟩
  ·exact h0 g3
  ·rw [b1] at hb
   cases hb
   cases els with
   | nil => exact h0 rfl
   | cons e els =>
    obtain ⟨z, hz⟩ : ∃ z, zs[0]? = some z := ⟨_, List.getElem?_eq_getElem (by simp at h2; omega)⟩
    obtain ⟨b, s'', rfl⟩ := (h3 0 e z rfl hz).cell
    have h0' := b4 0 _ rfl 0 _ rfl
    exact hX r row hx b2 _ (List.mem_of_getElem? h0')
 refine ⟨els, h1.of ?_ fun h0 r hr => hro r (hne h0 r hr) (ArrS.row_lt h1.arr h0 hr), h2, fun i e z he hz => (h3 i e z he hz).keep (fun r row hx hg c hc n => isSlice_not_int (hX r row hx hg c hc) _ n) hro⟩
 obtain ⟨⟨s, rfl, g1, g0, g3⟩, _⟩ := h1
 refine ⟨s, rfl, g1, g0, ?_⟩
 rcases g3 with g3 | ⟨r, o, row, b1, b2, b3, b4⟩
 ·exact .inl g3
 ·by_cases h0 : els = []
  ·exact .inl h0
  ·exact .inr ⟨r, o, row, b1, by rw [hro r (hne h0 r ⟨s, o, rfl, b1⟩) (Heap.get_lt b2)]; exact b2, b3, b4⟩
def IsRRows (lo : Nat) (H : Heap) (v : SV) (rows : List (List Int)) : Prop := ∃ ws, Arr H v ws /\ ws.length = rows.length /\ (∀ r, inRow v r -> lo <= r) /\ ∀ (i : Nat) w zs, ws[i]? = some w -> rows[i]? = some zs -> IsRZs H w zs /\ ∀ r, inRow w r -> lo <= r
theorem IsRRows.fr {lo : Nat} {H H' : Heap} {v : SV} {rows : List (List Int)} (h : IsRRows lo H v rows) (hf : Frame H H') : IsRRows lo H' v rows := by
 obtain ⟨ws, h1, h2, h0, h3⟩ := h
 exact ⟨ws, h1.fr hf, h2, h0, fun i w zs hw hz => ⟨(h3 i w zs hw hz).1.fr hf, (h3 i w zs hw hz).2⟩⟩
theorem IsRRows.len {lo : Nat} {H : Heap} {v : SV} {rows : List (List Int)} (h : IsRRows lo H v rows) (k : K1) : slow.len v k = k (i64 rows.length) := by
 obtain ⟨ws, h1, h2, h3⟩ := h
 rw [h1.len, h2]
theorem IsRRows.load {lo : Nat} {H : Heap} {v : SV} {rows : List (List Int)} (h : IsRRows lo H v rows) {i : Nat} {zs : List Int} (hz : rows[i]? = some zs) : ∃ w, (∀ kd k, slow.idx 1 v (.int kd i) (fun p => slow.load 1 false p H k) = k w) /\ IsRZs H w zs := by
 obtain ⟨ws, h1, h2, h0, h3⟩ := h
 have hi := (List.getElem?_eq_some_iff.1 hz).1
 obtain ⟨w, hw⟩ : ∃ w, ws[i]? = some w := ⟨_, List.getElem?_eq_getElem (by omega)⟩
 exact ⟨w, fun kd k => h1.load hw kd k, (h3 i w zs hw hz).1⟩
end Go.Sh.Of
namespace Go.Sh.Of
open Go
theorem big_dec {z : Int} (h : z.natAbs < 2 ^ 4096) : (decLE z.natAbs).length <= 4096 := dec_bits h
theorem pow_D {m k : Nat} (h : 16 * m = k) : D ^ m = 2 ^ k := by
 subst h
 rw [Nat.pow_mul]
 rfl
theorem big_rd {n : Nat} (h : n < 2 ^ 4096) : (rdigs n).length <= 256 := rdigs_len_le (k := 256) (by
 rw [pow_D (k := 4096) rfl]; exact h)
end Go.Sh.Of
namespace Go.Sh.Of
open Go
theorem rzof_ok (K : Nat) (hK : 1000 < K) (d : Nat) (H : Heap) {z : Int} (h0 : -9223372036854775808 <= z) (h1 : z < 9223372036854775808) :
  ∃ r H', runQ wk tab slow K (d + 2) 90 [.int .i64 z] H = some (r, H') /\ Frame H H' /\ IsRZ H' r z := by
 show ∃ r H', f90 slow K (runQ wk tab slow K (d + 1)) (.int .i64 z) H = _ /\ _
 by_cases h : z < 0
 ·have e1 : IntKind.wrap .u64 z = ((18446744073709551616 - z.natAbs : Nat) : Int) := by
   simp only [IntKind.wrap, IntKind.signed, IntKind.bits, Bool.false_and, Bool.false_eq_true, if_false]
   omega
  have e2 : IntKind.wrap .u64 (0 - ((18446744073709551616 - z.natAbs : Nat) : Int)) = ((z.natAbs : Nat) : Int) := by
   simp only [IntKind.wrap, IntKind.signed, IntKind.bits, Bool.false_and, Bool.false_eq_true, if_false]
   omega
  have e3 : ∀ k, slow.u_neg (u64 (18446744073709551616 - z.natAbs)) k = k (u64 z.natAbs) := fun k => by
   show (opP (.un .neg) [u64 (18446744073709551616 - z.natAbs)]).bind k = _
   simp only [opP, unOp, wrapB, Option.bind_some]
   rw [e2]
  obtain ⟨r, H1, h2, f1, hr⟩ := rof_ok K hK d H (n := z.natAbs) (by omega)
  obtain ⟨s, rfl, _⟩ := Arr.elems hr
  refine ⟨.agg [.bool true, .slice s], H1, ?_, f1, s, by simp [h], hr⟩
  simp only [f90, z_conv, z_lss, decide_eq_true h, z_cond, cond_true, f90_j1]
  rw [e1, e3, h2]
  simp only [z_call, z_build2s, z_bst2, z_resc2]
 ·obtain ⟨n, rfl⟩ : ∃ n : Nat, z = n := ⟨z.toNat, by omega⟩
  obtain ⟨r, H1, h2, f1, hr⟩ := rof_ok K hK d H (n := n) (by omega)
  obtain ⟨s, rfl, _⟩ := Arr.elems hr
  refine ⟨.agg [.bool false, .slice s], H1, ?_, f1, s, by simp [h], hr⟩
  simp only [f90]
  rw [n_conv64 _ .i64 n (by omega)]
  simp only [z_lss, decide_eq_false h, z_cond, cond_false, f90_j1]
  rw [h2]
  simp only [z_call, z_build2s, z_bst2, z_resc2]
end Go.Sh.Of
namespace Go.Sh.Of
open Go
theorem rval_drop (xs : List Nat) (i : Nat) : rval (xs.drop i) = xs.getD i 0 + D * rval (xs.drop (i + 1)) := by
 by_cases h : i < xs.length
 ·have e : xs.drop i = xs[i] :: xs.drop (i + 1) := List.drop_eq_getElem_cons h
  rw [e, rval]
  simp [List.getD, h]
 ·rw [List.drop_of_length_le (by omega), List.drop_of_length_le (by omega)]
  simp [List.getD, h, rval]
theorem rget_small {xs : List Nat} (h : RSmall xs) (i : Nat) : xs.getD i 0 < 65536 := by
 by_cases hi : i < xs.length
 ·have := h xs[i] (List.getElem_mem hi)
  simp only [List.getD, List.getElem?_eq_getElem hi, Option.getD_some]
  exact this
 ·simp only [List.getD, List.getElem?_eq_none (show xs.length <= i by omega), Option.getD_none]
  omega
theorem radd_loop (K : Nat) (d : Nat) {H0 : Heap} {v w : SV} {xs ys : List Nat} (hv : Arr H0 v (rl xs)) (hw : Arr H0 w (rl ys)) (hxs : RSmall xs) (hys : RSmall ys) (N : Nat) (hN : N < 2000000) (hxl : xs.length <= N) (hyl : ys.length <= N) (hK : N + 2 < K) {S : Nat} : ∀ (m i fuel c : Nat) (H : Heap) (o : SV) (res : List Nat), i + m = N + 1 -> m < fuel -> c <= 1 -> (m = 0 -> c = 0) -> Frame H0 H -> Own H0.size H o (rl res) -> res.length = i -> RSmall res -> rval res + D ^ i * (c + rval (xs.drop i) + rval (ys.drop i)) = S ->
  ∃ r H', slow.loop5 (f123_l1 slow K (runQ wk tab slow K (d + 1))) fuel v w o (u32 c) (i64 i) H = some (r, H') /\ Frame H0 H' /\ IsR H' r S := by
 intro m
 induction m with
 | zero =>
  intro i fuel c H o res him hf hc hc0 hfr ho hrl hrs hS
  obtain ⟨fuel, rfl⟩ : ∃ m, fuel = m + 1 := ⟨fuel - 1, by omega⟩
  have hx : ¬ i < xs.length := by omega
  have hy : ¬ i < ys.length := by omega
  have hcz := hc0 rfl
  subst hcz
  have h00 : ¬ (0 : Nat) > 0 := by omega
  rw [List.drop_of_length_le (by omega), List.drop_of_length_le (by omega)] at hS
  simp only [rval, Nat.add_zero, Nat.mul_zero] at hS
  obtain ⟨s, h2, hr, _⟩ := rcut_ok K d H (ds := res) ho.arr hrs (by omega) (by omega)
  rw [hS] at hr
  refine ⟨_, H, ?_, hfr, hr⟩
  rw [z_loop5]
  simp only [f123_l1, rlen (hv.fr hfr), rlen (hw.fr hfr), n_lss, decide_eq_false hx, decide_eq_false hy, z_guard, cond_false]
  rw [show (SV.int .u32 0) = u32 0 from rfl, n_gtr, decide_eq_false h00]
  simp only [f123_j2, z_cond, cond_false, h2, z_call]
  rw [z_rest (Arr.good hr)]
 | succ m ih =>
  intro i fuel c H o res him hf hc hc0 hfr ho hrl hrs hS
  obtain ⟨fuel, rfl⟩ : ∃ m, fuel = m + 1 := ⟨fuel - 1, by omega⟩
  have hvH := hv.fr hfr
  have hwH := hw.fr hfr
  have hxi := rget_small hxs i
  have hyi := rget_small hys i
  by_cases hgo : i < xs.length \/ i < ys.length \/ c > 0
  ·
   generalize hs : c + xs.getD i 0 + ys.getD i 0 = s
   have hs1 : s <= 131071 := by omega
   obtain ⟨o', H1, hp, ho1, f1, _⟩ := push1 ho hfr.size (.int .u32 0) (x := u32 (s % 65536)) rfl (by_ := 4) (roomy_small (by simp; omega))
   have e1 : rl res ++ [u32 (s % 65536)] = rl (res ++ [s % 65536]) := by simp [rl]
   rw [e1] at ho1
   have hnext : (m = 0 -> s / 65536 = 0) := fun hm => by
    have hiN : i = N := by omega
    have hx : ¬ i < xs.length := by omega
    have hy : ¬ i < ys.length := by omega
    have e1 : xs.getD i 0 = 0 := by simp [List.getD, hx]
    have e2 : ys.getD i 0 = 0 := by simp [List.getD, hy]
    omega
   obtain ⟨r, H2, h2, f2, hr⟩ := ih (i + 1) fuel (s / 65536) H1 o' (res ++ [s % 65536]) (by omega) (by omega) (by omega) hnext (Fr.trans hfr f1) ho1 (by simp [hrl]) (fun x hx => by
    rcases List.mem_append.1 hx with hx | hx
    ·exact hrs x hx
    ·rw [List.mem_singleton.1 hx]; exact Nat.mod_lt _ (by decide)) (by
    rw [rval_append, hrl, <- hS, rval_drop xs i, rval_drop ys i, Nat.pow_succ]
    simp only [rval, Nat.mul_zero, Nat.add_zero]
    have hdm := Nat.mod_add_div s 65536
    rw [Nat.add_assoc, Nat.mul_assoc, <- Nat.mul_add]
    congr 2
    show s % 65536 + D * (s / 65536 + rval (xs.drop (i + 1)) + rval (ys.drop (i + 1))) = _
    rw [show c + (xs.getD i 0 + D * rval (xs.drop (i + 1))) + (ys.getD i 0 + D * rval (ys.drop (i + 1))) = s + (D * rval (xs.drop (i + 1)) + D * rval (ys.drop (i + 1))) by omega, Nat.mul_add, Nat.mul_add]
    have hD : D * (s / 65536) = 65536 * (s / 65536) := rfl
    omega)
   have hj5 : f123_j5 slow K (runQ wk tab slow K (d + 1)) (slow.loop5 (f123_l1 slow K (runQ wk tab slow K (d + 1))) fuel) v w o (i64 i) (u32 s) H = some (r, H2) := by
    simp only [f123_j5]
    rw [show (SV.int .u32 65536) = u32 65536 from rfl, n_rem _ .u32 s (by decide), hp, n_quo32 _ _ (by decide) (by omega), show (SV.int .i64 1) = i64 1 from rfl, n_addi _ (by omega)]
    exact h2
   have hj4 : f123_j4 slow K (runQ wk tab slow K (d + 1)) (slow.loop5 (f123_l1 slow K (runQ wk tab slow K (d + 1))) fuel) v w o (i64 i) (u32 (c + xs.getD i 0)) H = some (r, H2) := by
    simp only [f123_j4, rlen hwH, n_lss]
    by_cases hy : i < ys.length
    ·have hg : ys[i]? = some (ys.getD i 0) := by simp [List.getD, hy]
     rw [decide_eq_true hy, z_cond, cond_true, hwH.load (rl_get hg), n_add32, Nat.mod_eq_of_lt (by omega), hs]
     exact hj5
    ·have e2 : ys.getD i 0 = 0 := by simp [List.getD, hy]
     rw [decide_eq_false hy, z_cond, cond_false, show c + xs.getD i 0 = s by omega]
     exact hj5
   have hj2 : f123_j2 slow K (runQ wk tab slow K (d + 1)) (slow.loop5 (f123_l1 slow K (runQ wk tab slow K (d + 1))) fuel) v w o (u32 c) (i64 i) (.bool true) H = some (r, H2) := by
    simp only [f123_j2, z_cond, cond_true, rlen hvH, n_lss]
    by_cases hx : i < xs.length
    ·have hg : xs[i]? = some (xs.getD i 0) := by simp [List.getD, hx]
     rw [decide_eq_true hx, cond_true, hvH.load (rl_get hg), n_add32, Nat.mod_eq_of_lt (by omega)]
     exact hj4
    ·have e2 : xs.getD i 0 = 0 := by simp [List.getD, hx]
     rw [e2, Nat.add_zero] at hj4
     rw [decide_eq_false hx, cond_false]
     exact hj4
   refine ⟨r, H2, ?_, f2, hr⟩
   rw [z_loop5]
   simp only [f123_l1, rlen hvH, rlen hwH, n_lss, z_guard]
   by_cases hx : i < xs.length
   ·rw [decide_eq_true hx, cond_true, hj2]
   ·rw [decide_eq_false hx, cond_false]
    by_cases hy : i < ys.length
    ·rw [decide_eq_true hy, cond_true, hj2]
    ·have hcp : c > 0 := by omega
     rw [decide_eq_false hy, cond_false, show (SV.int .u32 0) = u32 0 from rfl, n_gtr, decide_eq_true hcp, hj2]
  ·have hx : ¬ i < xs.length := fun h => hgo (.inl h)
   have hy : ¬ i < ys.length := fun h => hgo (.inr (.inl h))
   have hcz : c = 0 := by
    have : ¬ c > 0 := fun h => hgo (.inr (.inr h))
    omega
   subst hcz
   have h00 : ¬ (0 : Nat) > 0 := by omega
   rw [List.drop_of_length_le (by omega), List.drop_of_length_le (by omega)] at hS
   simp only [rval, Nat.add_zero, Nat.mul_zero] at hS
   obtain ⟨s, h2, hr, _⟩ := rcut_ok K d H (ds := res) ho.arr hrs (by omega) (by omega)
   rw [hS] at hr
   refine ⟨_, H, ?_, hfr, hr⟩
   rw [z_loop5]
   simp only [f123_l1, rlen hvH, rlen hwH, n_lss, decide_eq_false hx, decide_eq_false hy, z_guard, cond_false]
   rw [show (SV.int .u32 0) = u32 0 from rfl, n_gtr, decide_eq_false h00]
   simp only [f123_j2, z_cond, cond_false, h2, z_call]
   rw [z_rest (Arr.good hr)]
theorem radd_ok (K : Nat) (d : Nat) (H : Heap) {v w : SV} {a b : Nat} (hx : IsR H v a) (hy : IsR H w b) (hla : (rdigs a).length < 900000) (hlb : (rdigs b).length < 900000) (hK : 3000000 < K) :
  ∃ r H', runQ wk tab slow K (d + 2) 123 [v, w] H = some (r, H') /\ Frame H H' /\ IsR H' r (a + b) := by
 show ∃ r H', f123 slow K (runQ wk tab slow K (d + 1)) v w H = _ /\ _
 exact radd_loop K d (H0 := H) hx hy (rdigs_small a) (rdigs_small b) ((rdigs a).length + (rdigs b).length) (by omega) (by omega) (by omega) (by omega) ((rdigs a).length + (rdigs b).length + 1) 0 K 0 H (.slice nilSl) [] (by omega) (by omega) (by omega) (by omega) (Fr.refl _ _) (Own.nil _ _) rfl (fun x hx => by cases hx) (by simp [rval, rval_digs])
theorem bl_half {d : Nat} (h : d > 0) : bl d = bl (d / 2) + 1 := by
 by_cases h1 : d = 1
 ·subst h1; rfl
 ·have h2 : bl d = 1 + bl (d / 2) := bl_shift (k := 1) (show 2 <= d by omega)
  omega
theorem rbits_loop (C : CallC) (K : Nat) (H : Heap) : ∀ (d n fuel : Nat), d < fuel -> n + d < 9000000000000000000 -> d < 4294967296 -> slow.loop2 (f118_l2 slow K C) fuel (i64 n) (u32 d) H = some (i64 (n + bl d), H) := by
 intro d
 induction d using Nat.strongRecOn with
 | ind d ih =>
  intro n fuel hf hn hd
  obtain ⟨fuel, rfl⟩ : ∃ m, fuel = m + 1 := ⟨fuel - 1, by omega⟩
  rw [z_loop2]
  simp only [f118_l2]
  rw [show (SV.int .u32 0) = u32 0 from rfl, n_gtr, z_cond]
  by_cases h : d > 0
  ·rw [decide_eq_true h, cond_true, show (SV.int .i64 1) = i64 1 from rfl, n_addi _ (by omega), show (SV.int .u32 2) = u32 2 from rfl, n_quo32 _ _ (by decide) hd, ih (d / 2) (by omega) (n + 1) fuel (by omega) (by omega) (by omega), bl_half h]
   rw [show n + 1 + bl (d / 2) = n + (bl (d / 2) + 1) by omega]
  ·have h0 : d = 0 := by omega
   subst h0
   rw [decide_eq_false h, cond_false, z_rest_int]
   rfl
theorem rbl_digs {n : Nat} (h : n ≠ 0) : ∃ d, (rdigs n).getLast? = some d /\ d ≠ 0 /\ d < D /\ bl n = 16 * ((rdigs n).length - 1) + bl d := by
 induction n using Nat.strongRecOn with
 | ind n ih =>
  rw [rdigs_pos h]
  by_cases h0 : n / D = 0
  ·rw [h0, rdigs_zero]
   have hlt : n < D := (Nat.div_eq_zero_iff.1 h0).resolve_left (by decide)
   refine ⟨n % D, rfl, ?_, Nat.mod_lt _ (by decide), ?_⟩
   ·rw [Nat.mod_eq_of_lt hlt]; exact h
   ·rw [Nat.mod_eq_of_lt hlt]; simp
  ·obtain ⟨d, h1, h2, h3, h4⟩ := ih (n / D) (Nat.div_lt_self (Nat.pos_of_ne_zero h) (by decide)) h0
   have hne : rdigs (n / D) ≠ [] := fun e => by rw [e] at h1; cases h1
   refine ⟨d, ?_, h2, h3, ?_⟩
   ·cases hd : rdigs (n / D) with
    | nil => exact absurd hd hne
    | cons x l => rw [List.getLast?_cons_cons, <- hd]; exact h1
   ·have hge : 2 ^ 16 <= n := by
     have : D <= n := Nat.le_of_not_lt fun hlt => h0 (Nat.div_eq_of_lt hlt)
     exact this
    rw [bl_shift hge]
    show 16 + bl (n / D) = _
    rw [h4]
    have : 0 < (rdigs (n / D)).length := List.length_pos_iff.2 hne
    simp only [List.length_cons]
    omega
theorem rbits_ok (K : Nat) (hK : 100000 < K) (d : Nat) (H : Heap) {v : SV} {n : Nat} (hv : IsR H v n) (hb : (rdigs n).length < 10000000) : runQ wk tab slow K (d + 1) 118 [v] H = some (i64 (bl n), H) := by
 show f118 slow K (runQ wk tab slow K d) v H = _
 by_cases h0 : n = 0
 ·subst h0
  rw [IsR, rdigs_zero] at hv
  simp only [f118, rlen hv, z_eql, z_cond]
  rfl
 ·obtain ⟨x, h1, h2, h3, h4⟩ := rbl_digs h0
  have h3' : x < 65536 := h3
  have hlen : 0 < (rdigs n).length := by
   cases hd : rdigs n with
   | nil => rw [hd] at h1; cases h1
   | cons _ _ => simp
  have hx : (rdigs n)[(rdigs n).length - 1]? = some x := by rw [<- List.getLast?_eq_getElem?]; exact h1
  have hne : (((rdigs n).length : Int) == 0) = false := beq_eq_false_iff_ne.2 (by omega)
  have ha : Arr H v (rl (rdigs n)) := hv
  simp only [f118, rlen ha, z_eql, hne, z_cond, cond_false]
  rw [show (SV.int .i64 1) = i64 1 from rfl, n_subi _ (by omega) (by omega), show (SV.int .i64 16) = i64 16 from rfl, n_muli _ (by omega), n_subi _ (by omega) (by omega)]
  rw [ha.load (rl_get hx), rbits_loop _ K H x _ K (by omega) (by omega) (by omega), h4]
theorem rlong_ok (K : Nat) (hK : 100000 < K) (d : Nat) (H : Heap) {v : SV} {n : Nat} (hv : IsR H v n) (hb : (rdigs n).length < 10000000) : runQ wk tab slow K (d + 2) 94 [v] H = some (.bool (!decide (n < 2 ^ 4096)), H) := by
 have h1 := rbits_ok K hK d H hv hb
 show f94 slow K (runQ wk tab slow K (d + 1)) v H = _
 simp only [f94, h1, z_call]
 rw [show (SV.int .i64 4096) = i64 4096 from rfl, n_gtr, z_rest_bool]
 by_cases h : n < 2 ^ 4096
 ·have hn : ¬ bl n > 4096 := Nat.not_lt.2 ((bl_le (k := 4096)).2 h)
  rw [decide_eq_false hn, decide_eq_true h]
  rfl
 ·have hn : bl n > 4096 := Nat.lt_of_not_le fun hle => h ((bl_le (k := 4096)).1 hle)
  rw [decide_eq_true hn, decide_eq_false h]
  rfl
end Go.Sh.Of
namespace Go.Sh.Of
open Go
def RRow (lo : Nat) (H : Heap) (t : SV) (zs : List Int) : Prop := ∃ els, OwnS 2 lo H t els /\ els.length = zs.length /\ (∀ e ∈ els, zCell e) /\ ∀ (q : Nat) e z, els[q]? = some e -> zs[q]? = some z -> IsRZ H (.agg e) z
def ROut (lo : Nat) (H : Heap) (out : SV) (rows : List (List Int)) : Prop := ∃ ws, Own lo H out ws /\ ws.length = rows.length /\ (∀ w ∈ ws, isSlice w) /\ ∀ (q : Nat) w zs, ws[q]? = some w -> rows[q]? = some zs -> IsRZs H w zs /\ ∀ r, inRow w r -> lo <= r
theorem RRow.nil (lo : Nat) (H : Heap) : RRow lo H (.slice nilSl) [] := ⟨[], OwnS.nil _ _ _, rfl, (fun e he => by cases he), fun q e z he => by simp at he⟩
theorem ROut.nil (lo : Nat) (H : Heap) : ROut lo H (.slice nilSl) [] := ⟨[], Own.nil _ _, rfl, (fun e he => by cases he), fun q e z he => by simp at he⟩
theorem RRow.fr {lo : Nat} {H H' : Heap} {t : SV} {zs : List Int} (h : RRow lo H t zs) (hf : Frame H H') : RRow lo H' t zs := by
 obtain ⟨els, h1, h2, h3, h4⟩ := h
 exact ⟨els, OwnS.fr h1 hf, h2, h3, fun q e z he hz => (h4 q e z he hz).fr hf⟩
theorem RRow.flat {lo : Nat} {H : Heap} {t : SV} {zs : List Int} (h : RRow lo H t zs) : t.flat = true := by
 obtain ⟨els, h1, _⟩ := h
 exact h1.arr.flat
theorem RRow.cells {lo : Nat} {H : Heap} {t : SV} {zs : List Int} (h : RRow lo H t zs) : ∀ r row, inRow t r -> H.get r = some row -> ∀ c ∈ row.cells, ∀ n, c ≠ .int .u32 n := fun r row hr hg c hc n => by
 obtain ⟨els, h1, _, h3, _⟩ := h
 rw [OwnS.cells h1 hr hg] at hc
 exact zCells_flat h3 c hc _ _
theorem RRow.ge {lo : Nat} {H : Heap} {t : SV} {zs : List Int} (h : RRow lo H t zs) {r : Nat} (hr : inRow t r) : lo <= r := by
 obtain ⟨els, h1, _⟩ := h
 exact OwnS.geA h1 hr
theorem RRow.zs {lo : Nat} {H : Heap} {t : SV} {zs : List Int} (h : RRow lo H t zs) : IsRZs H t zs := by
 obtain ⟨els, h1, h2, h3, h4⟩ := h
 refine ⟨els, ⟨h1.arr, ?_⟩, h2, h4⟩
 obtain ⟨_, base, rfl, h1⟩ := h1
 rcases h1 with ⟨_, h1⟩ | ⟨r, ver, rfl, _, g⟩
 ·exact .inl h1
 ·refine .inr fun s hs a => ?_
  cases hs
  unfold eszOk
  simp only [g]
  have e1 : Nat.beq 2 0 = false := rfl
  have e2 : Nat.beq 2 2 = true := rfl
  have e3 : Nat.ble 1 2 = true := rfl
  simp [e1, e2, e3]
theorem RRow.push {lo : Nat} {H : Heap} {t : SV} {zs : List Int} (h : RRow lo H t zs) (hl : lo <= H.size) {b : SV} {s : SV} {z : Int} (hz : IsRZ H (.agg [b, s]) z) (hlen : zs.length < 100000) :
  ∃ t' H', (∀ k, slow.hbuild 2 [.bool false, .slice nilSl] [(0, 2)] [.agg [b, s]] H (fun u H1 => slow.append 2 32 t u H1 k) = k t' H') /\ RRow lo H' t' (zs ++ [z]) /\ Fr lo H H' := by
 have hX := h.cells
 obtain ⟨els, h1, h2, h3, h4⟩ := h
 obtain ⟨t', H2, hp, ht2, hf2, hro⟩ := pushS (by decide) (by decide) h1 hl [.bool false, .slice nilSl] rfl (e := [b, s]) rfl (by_ := 32) (roomy_small (by omega))
 refine ⟨t', H2, hp, ⟨els ++ [[b, s]], ht2, by simp [h2], fun e he => ?_, fun q e z' he hz' => ?_⟩, hf2⟩
 ·rcases List.mem_append.1 he with he | he
  ·exact h3 e he
  ·rw [List.mem_singleton.1 he]; exact hz.cell
 ·by_cases hq : q < els.length
  ·rw [List.getElem?_append_left hq] at he
   rw [List.getElem?_append_left (by omega)] at hz'
   exact (h4 q e z' he hz').keep (X := fun r => inRow t r) hX hro
  ·have hq2 : q = els.length := by have := (List.getElem?_eq_some_iff.1 he).1; simp at this; omega
   subst hq2
   simp at he
   subst he
   rw [h2] at hz'
   simp at hz'
   subst hz'
   exact hz.keep (X := fun r => inRow t r) hX hro
theorem ROut.push {lo : Nat} {Hi H : Heap} {out t : SV} {rows : List (List Int)} {zs : List Int} (h : ROut lo Hi out rows) (hlo : lo <= Hi.size) (hfr : Frame Hi H) (ht : RRow Hi.size H t zs) (hlen : rows.length < 100000) :
  ∃ out' H', (∀ k, slow.hbuild 1 [.slice nilSl] [(0, 1)] [t] H (fun u H1 => slow.append 1 24 out u H1 k) = k out' H') /\ ROut lo H' out' (rows ++ [zs]) /\ Fr lo Hi H' := by
 obtain ⟨ws, ho, hwl, hws, hdone⟩ := h
 obtain ⟨out', H2, hp, ho2, hf2, hrw⟩ := push1 (ho.fr hfr) (Nat.le_trans hlo hfr.size) (.slice nilSl) (x := t) ht.flat (by_ := 24) (roomy_small (by omega))
 have hX : ∀ r row, inRow out r -> H.get r = some row -> ∀ c ∈ row.cells, isSlice c := fun r row hr hg c hc => by
  rw [Own.cells (ho.fr hfr) hr hg] at hc
  exact hws c hc
 have htz : IsRZs H2 t zs := ht.zs.keep (X := fun r => inRow out r) (fun r hr hx => by
  have := ht.ge hr
  have := Own.lt ho hx
  omega) (fun r row hx hg c hc n => isSlice_not_int (hX r row hx hg c hc) _ n) hrw
 refine ⟨out', H2, hp, ⟨ws ++ [t], ho2, by simp [hwl], fun w hw => ?_, fun q w zs' hw hz' => ?_⟩, (hfr.mono hlo).trans hf2⟩
 ·rcases List.mem_append.1 hw with hw | hw
  ·exact hws w hw
  ·rw [List.mem_singleton.1 hw]; exact htz.slice
 ·by_cases hq : q < ws.length
  ·rw [List.getElem?_append_left hq] at hw
   rw [List.getElem?_append_left (by omega)] at hz'
   exact ⟨((hdone q w zs' hw hz').1.fr hfr).keepS (X := fun r => inRow out r) hX hrw, (hdone q w zs' hw hz').2⟩
  ·have hq2 : q = ws.length := by have := (List.getElem?_eq_some_iff.1 hw).1; simp at this; omega
   subst hq2
   simp at hw
   subst hw
   rw [hwl] at hz'
   simp at hz'
   subst hz'
   exact ⟨htz, fun r hr => Nat.le_trans hlo (ht.ge hr)⟩
theorem ROut.rrows {lo : Nat} {H : Heap} {out : SV} {rows : List (List Int)} (h : ROut lo H out rows) : IsRRows lo H out rows := by
 obtain ⟨ws, ho, hwl, hws, hdone⟩ := h
 exact ⟨ws, ho.arr, hwl, fun r hr => Own.ge ho hr, hdone⟩
theorem ROut.good {lo : Nat} {H : Heap} {out : SV} {rows : List (List Int)} (h : ROut lo H out rows) : out.good = true := by
 obtain ⟨ws, ho, _⟩ := h
 exact ho.arr.good
theorem rbig {z : Int} (h : z.natAbs < 2 ^ 4096) : (rdigs z.natAbs).length <= 256 := big_rd h
theorem rcols_ok (K : Nat) (d : Nat) (H : Heap) {lo : Nat} {v : SV} {A : List (List Int)} (hv : IsRRows lo H v A) : runQ wk tab slow K (d + 1) 111 [v] H = some (i64 (colsOf A), H) := by
 show f111 slow K (runQ wk tab slow K d) v H = _
 simp only [f111, hv.len, z_eql, z_cond]
 by_cases h0 : A = []
 ·subst h0
  rfl
 ·have hz : ((A.length : Int) == 0) = false := beq_eq_false_iff_ne.2 (by have := List.length_pos_iff.2 h0; omega)
  obtain ⟨r0, hr0⟩ : ∃ r, A[0]? = some r := ⟨_, List.getElem?_eq_getElem (List.length_pos_iff.2 h0)⟩
  obtain ⟨u, hu, hz0⟩ := hv.load (i := 0) hr0
  have hu' : ∀ k, slow.idx 1 v (.int .i64 0) (fun p => slow.load 1 false p H k) = k u := fun k => hu .i64 k
  have e : colsOf A = r0.length := by simp [colsOf, hr0]
  simp only [hz, cond_false, hu', hz0.len, z_rest_int, e]
theorem rlen_pos {n : Nat} : (decide ((((rdigs n).length : Nat) : Int) > 0)) = decide (n ≠ 0) := by
 rw [decide_eq_decide]
 by_cases h : n = 0
 ·subst h; rw [rdigs_zero]; simp
 ·have : rdigs n ≠ [] := fun e => h (rdigs_nil.1 e)
  have := List.length_pos_iff.2 this
  constructor
  ·intro _; exact h
  ·intro _; omega
theorem IsR.slice {H : Heap} {v : SV} {n : Nat} (h : IsR H v n) : ∃ s, v = .slice s := by
 obtain ⟨s, e, _⟩ := h
 exact ⟨s, e⟩
theorem rzneg_ok (K : Nat) (d : Nat) (H : Heap) {v : SV} {z : Int} (hv : IsRZ H v z) : ∃ r, runQ wk tab slow K (d + 1) 115 [v] H = some (r, H) /\ IsRZ H r (-z) := by
 obtain ⟨s, rfl, hs⟩ := hv
 have hl : ∀ k, slow.len (.slice s) k = k (i64 (rdigs z.natAbs).length) := rlen hs
 show ∃ r, f115 slow K (runQ wk tab slow K d) (.agg [.bool (decide (z < 0)), .slice s]) H = _ /\ _
 refine ⟨.agg [.bool (decide (-z < 0)), .slice s], ?_, s, rfl, by rw [Int.natAbs_neg]; exact hs⟩
 by_cases h : z < 0
 ·have e : decide (-z < 0) = false := decide_eq_false (by omega)
  simp only [f115, z_bbox, z_lfld, z_lld0, z_lld1, decide_eq_true h, z_not, Bool.not_true, z_guard, cond_false, z_build2s, z_bst2, f115_j1, z_resc2, e]
 ·have e : decide (-z < 0) = decide (z.natAbs ≠ 0) := decide_eq_decide.2 (by omega)
  simp only [f115, z_bbox, z_lfld, z_lld0, z_lld1, decide_eq_false h, z_not, Bool.not_false, z_guard, cond_true, hl, z_gtr, rlen_pos, z_build2s, z_bst2, f115_j1, z_resc2, e]
theorem rzadd_ok (K : Nat) (hK : 3000000 < K) (d : Nat) (H : Heap) {v w : SV} {a b : Int} (hv : IsRZ H v a) (hw : IsRZ H w b) (hla : (rdigs a.natAbs).length < 100000) (hlb : (rdigs b.natAbs).length < 100000) :
  ∃ r H', runQ wk tab slow K (d + 3) 114 [v, w] H = some (r, H') /\ Frame H H' /\ IsRZ H' r (a + b) := by
 obtain ⟨s, rfl, hs⟩ := hv
 obtain ⟨t, rfl, ht⟩ := hw
 show ∃ r H', f114 slow K (runQ wk tab slow K (d + 2)) _ _ H = _ /\ _
 by_cases hsg : decide (a < 0) = decide (b < 0)
 ·have hbeq : (decide (a < 0) == decide (b < 0)) = true := by rw [hsg]; exact beq_self_eq_true _
  obtain ⟨r, H1, h1, f1, hr⟩ := radd_ok K d H hs ht (by omega) (by omega) hK
  obtain ⟨q, rfl⟩ := hr.slice
  have e1 : decide (a < 0) = decide (a + b < 0) := by
   by_cases h : a < 0
   ·have : b < 0 := by rw [decide_eq_true h] at hsg; exact of_decide_eq_true hsg.symm
    rw [decide_eq_true h, decide_eq_true (by omega)]
   ·have : ¬ b < 0 := by rw [decide_eq_false h] at hsg; exact of_decide_eq_false hsg.symm
    rw [decide_eq_false h, decide_eq_false (by omega)]
  have e2 : a.natAbs + b.natAbs = (a + b).natAbs := by
   by_cases h : a < 0
   ·have : b < 0 := by rw [decide_eq_true h] at hsg; exact of_decide_eq_true hsg.symm
    omega
   ·have : ¬ b < 0 := by rw [decide_eq_false h] at hsg; exact of_decide_eq_false hsg.symm
    omega
  rw [e2] at hr
  refine ⟨.agg [.bool (decide (a + b < 0)), .slice q], H1, ?_, f1, q, rfl, hr⟩
  simp only [f114, z_bbox, z_lfld, z_lld0, z_lld1, z_beql, hbeq, z_cond, cond_true, h1, z_call, z_build2s, z_bst2, z_resc2]
  rw [e1]
 ·have hbeq : (decide (a < 0) == decide (b < 0)) = false := beq_eq_false_iff_ne.2 hsg
  have hc := rcmp_ok K (d + 1) H hs ht (by omega) (by omega)
  by_cases hab : a.natAbs < b.natAbs
  ·have hcm : ¬ cmpN a.natAbs b.natAbs >= 0 := by unfold cmpN; rw [if_pos hab]; omega
   obtain ⟨r, H1, h1, f1, hr, _⟩ := rsub_ok K d H ht hs (by omega) (by omega) (by omega)
   obtain ⟨q, rfl⟩ := hr.slice
   have hx : (a < 0) ≠ (b < 0) := fun e => hsg (decide_eq_decide.2 (by rw [e]))
   have e1 : decide (b < 0) = decide (a + b < 0) := decide_eq_decide.2 (by omega)
   have e2 : b.natAbs - a.natAbs = (a + b).natAbs := by
    by_cases h : a < 0
    ·have : ¬ b < 0 := fun hb => hsg (by rw [decide_eq_true h, decide_eq_true hb])
     omega
    ·have : b < 0 := Decidable.byContradiction fun hb => hsg (by rw [decide_eq_false h, decide_eq_false hb])
     omega
   rw [e2] at hr
   refine ⟨.agg [.bool (decide (a + b < 0)), .slice q], H1, ?_, f1, q, rfl, hr⟩
   simp only [f114, z_bbox, z_lfld, z_lld0, z_lld1, z_beql, hbeq, z_cond, cond_false, hc, z_call, z_geq, decide_eq_false hcm, h1, z_build2s, z_bst2, z_resc2]
   rw [e1]
  ·have hcm : cmpN a.natAbs b.natAbs >= 0 := by unfold cmpN; rw [if_neg hab]; split <;> omega
   obtain ⟨r, H1, h1, f1, hr, _⟩ := rsub_ok K d H hs ht (by omega) (by omega) (by omega)
   obtain ⟨q, rfl⟩ := hr.slice
   have hl : ∀ k, slow.len (.slice q) k = k (i64 (rdigs (a.natAbs - b.natAbs)).length) := rlen hr
   have e2 : a.natAbs - b.natAbs = (a + b).natAbs := by
    by_cases h : a < 0
    ·have : ¬ b < 0 := fun hb => hsg (by rw [decide_eq_true h, decide_eq_true hb])
     omega
    ·have : b < 0 := Decidable.byContradiction fun hb => hsg (by rw [decide_eq_false h, decide_eq_false hb])
     omega
   rw [e2] at hr hl
   refine ⟨.agg [.bool (decide (a + b < 0)), .slice q], H1, ?_, f1, q, rfl, hr⟩
   by_cases h : a < 0
   ·have hb0 : ¬ b < 0 := fun hb => hsg (by rw [decide_eq_true h, decide_eq_true hb])
    have e1 : decide (a + b < 0) = decide ((a + b).natAbs ≠ 0) := decide_eq_decide.2 (by omega)
    simp only [f114, z_bbox, z_lfld, z_lld0, z_lld1, z_beql, hbeq, z_cond, cond_false, hc, z_call, z_geq, decide_eq_true hcm, cond_true, h1]
    rw [decide_eq_true h]
    simp only [z_guard, cond_true, hl, z_gtr, rlen_pos, z_build2s, z_bst2, f114_j2, z_resc2, e1]
   ·have hb0 : b < 0 := Decidable.byContradiction fun hb => hsg (by rw [decide_eq_false h, decide_eq_false hb])
    have e1 : decide (a + b < 0) = false := decide_eq_false (by omega)
    simp only [f114, z_bbox, z_lfld, z_lld0, z_lld1, z_beql, hbeq, z_cond, cond_false, hc, z_call, z_geq, decide_eq_true hcm, cond_true, h1]
    rw [decide_eq_false h]
    simp only [z_guard, cond_false, z_build2s, z_bst2, f114_j2, z_resc2, e1]
theorem rzmul_ok (K : Nat) (hK : 3000000 < K) (d : Nat) (H : Heap) {v w : SV} {a b : Int} (hv : IsRZ H v a) (hw : IsRZ H w b) (hla : (rdigs a.natAbs).length < 100000) (hlb : (rdigs b.natAbs).length < 100000) :
  ∃ r H', runQ wk tab slow K (d + 3) 112 [v, w] H = some (r, H') /\ Frame H H' /\ IsRZ H' r (a * b) := by
 obtain ⟨s, rfl, hs⟩ := hv
 obtain ⟨t, rfl, ht⟩ := hw
 show ∃ r H', f112 slow K (runQ wk tab slow K (d + 2)) _ _ H = _ /\ _
 obtain ⟨r, H1, h1, f1, hr⟩ := rmul01_ok K d H hs ht (by omega) (by omega) (by omega)
 obtain ⟨q, rfl⟩ := hr.slice
 have hl : ∀ k, slow.len (.slice q) k = k (i64 (rdigs (a.natAbs * b.natAbs)).length) := rlen hr
 rw [<- Int.natAbs_mul] at hr hl
 refine ⟨.agg [.bool (decide (a * b < 0)), .slice q], H1, ?_, f1, q, rfl, hr⟩
 by_cases hsg : decide (a < 0) = decide (b < 0)
 ·have hbeq : (!(decide (a < 0) == decide (b < 0))) = false := by rw [hsg, beq_self_eq_true]; rfl
  have e1 : decide (a * b < 0) = false := decide_eq_false (by
   apply Int.not_lt.2
   by_cases h : a < 0
   ·have : b < 0 := by rw [decide_eq_true h] at hsg; exact of_decide_eq_true hsg.symm
    exact Int.mul_nonneg_of_nonpos_of_nonpos (by omega) (by omega)
   ·have : ¬ b < 0 := by rw [decide_eq_false h] at hsg; exact of_decide_eq_false hsg.symm
    exact Int.mul_nonneg (by omega) (by omega))
  simp only [f112, z_bbox, z_lfld, z_lld0, z_lld1, h1, z_call, z_bneq, hbeq, z_guard, cond_false, z_build2s, z_bst2, f112_j1, z_resc2, e1]
 ·have hbeq : (!(decide (a < 0) == decide (b < 0))) = true := by rw [beq_eq_false_iff_ne.2 hsg]; rfl
  have hle : a * b <= 0 := by
   by_cases h : a < 0
   ·have : ¬ b < 0 := fun hb => hsg (by rw [decide_eq_true h, decide_eq_true hb])
    exact Int.mul_nonpos_of_nonpos_of_nonneg (by omega) (by omega)
   ·have : b < 0 := Decidable.byContradiction fun hb => hsg (by rw [decide_eq_false h, decide_eq_false hb])
    exact Int.mul_nonpos_of_nonneg_of_nonpos (by omega) (by omega)
  have e1 : decide (a * b < 0) = decide ((a * b).natAbs ≠ 0) := decide_eq_decide.2 (by omega)
  simp only [f112, z_bbox, z_lfld, z_lld0, z_lld1, h1, z_call, z_bneq, hbeq, z_guard, cond_true, hl, z_gtr, rlen_pos, z_build2s, z_bst2, f112_j1, z_resc2, e1]
end Go.Sh.Of
