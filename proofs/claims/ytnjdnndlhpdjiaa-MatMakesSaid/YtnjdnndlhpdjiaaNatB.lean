/- Contracts of the package nat: Text. -/
import Derived.Test.YtnjdnndlhpdjiaaNatA
set_option linter.unusedVariables false
set_option linter.unusedSimpArgs false
namespace Go.Sh.Of
open Go

/-- Decimal digits, the lowest first. -/
def decLE (n : Nat) : List Nat := if h : n = 0 then [] else n % 10 :: decLE (n / 10)
termination_by n
decreasing_by exact Nat.div_lt_self (Nat.pos_of_ne_zero h) (by decide)
theorem decLE_zero : decLE 0 = [] := by rw [decLE]; rfl
theorem decLE_pos {n : Nat} (h : n ≠ 0) : decLE n = n % 10 :: decLE (n / 10) := by rw [decLE, dif_neg h]
/-- A digit's byte. -/
def chr (d : Nat) : UInt8 := UInt8.ofNat (48 + d)
/-- Decimal digits, as a text. -/
def dec (n : Nat) : List UInt8 := if n = 0 then [48] else (decLE n).reverse.map chr
theorem decLE_lt {n : Nat} : ∀ d ∈ decLE n, d < 10 := by
  induction n using Nat.strongRecOn with
  | ind n ih =>
    by_cases h : n = 0
    · subst h; rw [decLE_zero]; intro d hd; cases hd
    · rw [decLE_pos h]
      intro d hd
      rcases List.mem_cons.1 hd with rfl | hd
      · exact Nat.mod_lt _ (by decide)
      · exact ih (n / 10) (Nat.div_lt_self (Nat.pos_of_ne_zero h) (by decide)) d hd
theorem decLE_len {n k : Nat} (h : n < 10 ^ k) : (decLE n).length ≤ k := by
  induction k generalizing n with
  | zero => have : n = 0 := by simpa using h
            subst this; rw [decLE_zero]; simp
  | succ k ih =>
    by_cases h0 : n = 0
    · subst h0; rw [decLE_zero]; simp
    · rw [decLE_pos h0, List.length_cons]
      have : n / 10 < 10 ^ k := by rw [Nat.div_lt_iff_lt_mul (by decide), ← Nat.pow_succ]; exact h
      exact Nat.succ_le_succ (ih this)
theorem decLE_lt_pow (n : Nat) : n < 10 ^ (decLE n).length := by
  induction n using Nat.strongRecOn with
  | ind n ih =>
    by_cases h : n = 0
    · subst h; rw [decLE_zero]; simp
    · rw [decLE_pos h, List.length_cons, Nat.pow_succ]
      have := ih (n / 10) (Nat.div_lt_self (Nat.pos_of_ne_zero h) (by decide))
      omega
theorem decLE_mono {a b : Nat} (h : a ≤ b) : (decLE a).length ≤ (decLE b).length := decLE_len (Nat.lt_of_le_of_lt h (decLE_lt_pow b))
theorem two_ten : ∀ k : Nat, 2 ^ k ≤ 10 ^ k
  | k => Nat.pow_le_pow_left (by decide) k
abbrev chrs (l : List Nat) : List SV := l.map fun d => u8 (48 + d)
theorem inRow_uniq {v : SV} {r r' : Nat} (h : inRow v r) (h' : inRow v r') : r = r' := by
  obtain ⟨s, o, rfl, e⟩ := h
  obtain ⟨s', o', e1, e2⟩ := h'
  cases e1
  rw [e] at e2
  cases e2
  rfl
theorem Own.of_rows {lo : Nat} {H H' : Heap} {v : SV} {cs : List SV} (h : Own lo H v cs) (hr : ∀ r, inRow v r → H'.get r = H.get r) : Own lo H' v cs := by
  obtain ⟨base, rfl, h⟩ := h
  refine ⟨base, rfl, ?_⟩
  rcases h with h | ⟨r, ver, rfl, h2, h3⟩
  · exact .inl h
  · exact .inr ⟨r, ver, rfl, h2, by rw [hr r ⟨_, 0, rfl, rfl⟩]; exact h3⟩
theorem not_inRow_nil (r : Nat) : ¬ inRow (.slice nilSl) r := fun ⟨s, o, e, h⟩ => by cases e; cases h
theorem Own.lt {lo : Nat} {H : Heap} {v : SV} {cs : List SV} (h : Own lo H v cs) {r : Nat} (hr : inRow v r) : r < H.size := by
  obtain ⟨base, rfl, h⟩ := h
  obtain ⟨s, o, e, h4⟩ := hr
  cases e
  rcases h with ⟨rfl, _⟩ | ⟨r', ver, rfl, h2, h3⟩
  · cases h4
  · cases h4; exact Heap.get_lt h3
/-- The inner loop: nine digits, or as many as there are. -/
theorem text_in (C : CallC) (K : Nat) (lo : Nat) {sl : SV} {r : Nat} {post : List SV} {m : Nat} (hroot : Root sl) (hfl : sl.flat = true) (k14 : SV → SV → Heap → Rs) (N : Nat) (hN : N < 1000000000) : ∀ (j i x : Nat) (fuel : Nat) (H : Heap) (out : SV) (pre : List Nat), i + j = 9 → j < fuel → x < 10 ^ j → lo ≤ H.size → Wr lo H sl r [] (limbs (digs m)) post → Own lo H out (chrs pre) → ¬ inRow out r → pre.length + (decLE (x + 10 ^ j * m)).length ≤ N →
    ∃ out' H' pre', slow.loop4 (f44_l4 slow K C k14) fuel sl out (u32 x) (i64 i) H = k14 sl out' H' ∧ Fr lo H H' ∧ Wr lo H' sl r [] (limbs (digs m)) post ∧ Own lo H' out' (chrs pre') ∧ ¬ inRow out' r ∧ pre' ++ decLE m = pre ++ decLE (x + 10 ^ j * m)
  | 0, i, x, fuel, H, out, pre, hij, hf, hx, hlo, hw, ho, hnr, hlen => by
    obtain ⟨fuel, rfl⟩ : ∃ m, fuel = m + 1 := ⟨fuel - 1, by omega⟩
    have hx0 : x = 0 := by simpa using hx
    subst hx0
    have h9 : ¬ (i : Int) < 9 := by omega
    refine ⟨out, H, pre, ?_, Fr.refl _ _, hw, ho, hnr, by simp⟩
    rw [z_loop4]
    simp only [f44_l4, z_lss, decide_eq_false h9, z_guard, cond_false, f44_j5, z_cond]
  | j + 1, i, x, fuel, H, out, pre, hij, hf, hx, hlo, hw, ho, hnr, hlen => by
    obtain ⟨fuel, rfl⟩ : ∃ m, fuel = m + 1 := ⟨fuel - 1, by omega⟩
    have h9 : (i : Int) < 9 := by omega
    have hlt : x < 4294967296 := by
      have : 10 ^ (j + 1) ≤ 10 ^ 9 := Nat.pow_le_pow_right (by decide) (by omega)
      omega
    by_cases h0 : m = 0 ∧ x = 0
    · obtain ⟨rfl, rfl⟩ := h0
      refine ⟨out, H, pre, ?_, Fr.refl _ _, hw, ho, hnr, by simp⟩
      rw [z_loop4]
      have hl0 : Arr H sl (limbs (digs 0)) := hw.arr
      rw [digs_zero] at hl0
      have e1 : ¬ (((([] : List Nat).length : Nat) : Int) > 0) := by simp
      have e2 : ¬ (((0 : Nat) : Int) > 0) := by omega
      simp only [f44_l4, z_lss, decide_eq_true h9, z_guard, cond_true, blen hl0, z_gtr, decide_eq_false e1, decide_eq_false e2, cond_false, f44_j5, z_cond]
    · have hne : x + 10 ^ (j + 1) * m ≠ 0 := by
        intro e
        apply h0
        have h1 : x = 0 := by omega
        have h2 : 10 ^ (j + 1) * m = 0 := by omega
        exact ⟨(Nat.mul_eq_zero.1 h2).resolve_left (by have := Nat.pow_pos (n := j + 1) (show 0 < 10 by decide); omega), h1⟩
      have e10 : 10 ^ (j + 1) * m = 10 * (10 ^ j * m) := by rw [Nat.pow_succ, Nat.mul_comm (10 ^ j) 10, Nat.mul_assoc]
      have em : (x + 10 ^ (j + 1) * m) % 10 = x % 10 := by rw [e10]; omega
      have ed : (x + 10 ^ (j + 1) * m) / 10 = x / 10 + 10 ^ j * m := by rw [e10]; omega
      have edec : decLE (x + 10 ^ (j + 1) * m) = x % 10 :: decLE (x / 10 + 10 ^ j * m) := by rw [decLE_pos hne, em, ed]
      have h10 : (48 + x % 10) % 4294967296 % 256 = 48 + x % 10 := by omega
      obtain ⟨u, H1, hu, hou, hfu, hru, hsz⟩ := z_lay1 (H := H) (lo := H.size) (Nat.le_refl _) (.int .u8 0) (x := u8 (48 + x % 10)) rfl
      rw [edec, List.length_cons] at hlen
      obtain ⟨o', H2, ha, ho2, hf2, hrow, hin, _⟩ := (ho.fr hfu).append (Nat.le_trans hlo hfu.size) hou.arr (by_ := 1) (roomy_small (by simp; omega))
      have hrlt := hw.lt
      have hnr' : ¬ inRow o' r := fun hi => by
        have := inRow_uniq (hin (by simp)) hi
        have := hfu.size
        omega
      have hw2 : Wr lo H2 sl r [] (limbs (digs m)) post := by
        have hw1 := hw.fr hfu
        exact hw1.row (hrow r hnr (hw1.lt))
      have e3 : chrs pre ++ [u8 (48 + x % 10)] = chrs (pre ++ [x % 10]) := by simp
      rw [e3] at ho2
      obtain ⟨out', H', pre', h1, h2, h3, h4, h5, h6⟩ := text_in C K lo hroot hfl k14 N hN j (i + 1) (x / 10) fuel H2 o' (pre ++ [x % 10]) (by omega) (by omega) (by rw [Nat.pow_succ] at hx; omega) (Nat.le_trans hlo (Nat.le_trans hfu.size hf2.size)) hw2 ho2 hnr' (by simp; omega)
      refine ⟨out', H', pre', ?_, ((hfu.mono hlo).trans hf2).trans h2, h3, h4, h5, by rw [h6, edec]; simp⟩
      rw [z_loop4]
      have step : f44_j5 slow K C k14 (slow.loop4 (f44_l4 slow K C k14) fuel) sl out (u32 x) (i64 i) (.bool true) H = k14 sl out' H' := by
        simp only [f44_j5, z_cond, cond_true]
        rw [show (SV.int .u32 10) = u32 10 from rfl, n_rem _ .u32 x (by decide), show (SV.int .u32 48) = u32 48 from rfl, n_add32, n_conv8, h10, hu, ha, n_quo32 _ _ (by decide) hlt]
        rw [show (SV.int .i64 1) = i64 1 from rfl, n_addi _ (by omega)]
        exact h1
      simp only [f44_l4, z_lss, decide_eq_true h9, z_guard, cond_true, blen hw.arr, z_gtr]
      by_cases hl : ((digs m).length : Int) > 0
      · simp only [decide_eq_true hl, cond_true]; exact step
      · have hm0 : m = 0 := digs_nil.1 (List.eq_nil_of_length_eq_zero (by omega))
        have hx0 : ((x : Nat) : Int) > 0 := by
          have : x ≠ 0 := fun e => h0 ⟨hm0, e⟩
          omega
        simp only [decide_eq_false hl, cond_false, decide_eq_true hx0]; exact step
/-- The last loop: a list turned round, in place. -/
theorem swap_turn {α : Type} {l : List α} {i : Nat} (h : 2 * i + 1 < l.length) {x y : α} (hx : l[i]? = some x) (hy : l[l.length - 1 - i]? = some y) : (l.set i y).set (l.length - 1 - i) x = (l.set (l.length - 1 - i) x).set i y := by
  rw [List.set_comm]
  omega
/-- The first i and the last i have changed places. -/
def half (l : List Nat) (i : Nat) : List Nat := (l.reverse.take i) ++ ((l.drop i).take (l.length - 2 * i)) ++ (l.reverse.drop (l.length - i))
theorem half_get {l : List Nat} {i j : Nat} (hi : 2 * i ≤ l.length) (hj : j < l.length) : (half l i)[j]? = if j < i ∨ l.length - i ≤ j then l.reverse[j]? else l[j]? := by
  unfold half
  rw [List.append_assoc, List.getElem?_append]
  have hl1 : (l.reverse.take i).length = i := by simp; omega
  rw [hl1]
  by_cases h1 : j < i
  · rw [if_pos h1, if_pos (.inl h1), List.getElem?_take_of_lt h1]
  · rw [if_neg h1, List.getElem?_append]
    have hl2 : ((l.drop i).take (l.length - 2 * i)).length = l.length - 2 * i := by simp; omega
    rw [hl2]
    by_cases h2 : j - i < l.length - 2 * i
    · rw [if_pos h2, if_neg (by omega), List.getElem?_take_of_lt h2, List.getElem?_drop, show i + (j - i) = j by omega]
    · rw [if_neg h2, if_pos (.inr (by omega)), List.getElem?_drop]
      congr 1; omega
theorem half_len {l : List Nat} {i : Nat} (hi : 2 * i ≤ l.length) : (half l i).length = l.length := by
  unfold half; simp; omega
theorem half_zero (l : List Nat) : half l 0 = l := by simp [half]
theorem half_end {l : List Nat} {i : Nat} (hi : 2 * i ≤ l.length) (h : l.length ≤ 2 * i + 1) : half l i = l.reverse := by
  apply List.ext_getElem?
  intro j
  by_cases hj : j < l.length
  · rw [half_get hi hj]
    split
    · rfl
    · rw [List.getElem?_reverse hj]
      congr 1; omega
  · rw [List.getElem?_eq_none (by rw [half_len hi]; omega), List.getElem?_eq_none (by simp; omega)]
theorem half_step {l : List Nat} {i : Nat} (h : 2 * i + 1 < l.length) {x y : Nat} (hx : l[i]? = some x) (hy : l[l.length - 1 - i]? = some y) : ((half l i).set i y).set (l.length - 1 - i) x = half l (i + 1) := by
  apply List.ext_getElem?
  intro j
  by_cases hj : j < l.length
  · rw [half_get (by omega) hj, List.getElem?_set, List.getElem?_set]
    simp only [List.length_set, half_len (show 2 * i ≤ l.length by omega)]
    by_cases h1 : l.length - 1 - i = j
    · rw [if_pos h1, if_pos (show l.length - 1 - i < l.length by omega), if_pos (.inr (by omega)), List.getElem?_reverse hj, ← hx]
      congr 1; omega
    · rw [if_neg h1]
      by_cases h2 : i = j
      · rw [if_pos h2, if_pos (by omega), if_pos (.inl (by omega)), List.getElem?_reverse hj, ← hy]
        congr 1; omega
      · rw [if_neg h2, half_get (by omega) hj]
        by_cases h3 : j < i ∨ l.length - i ≤ j
        · rw [if_pos h3, if_pos (by omega)]
        · rw [if_neg h3, if_neg (by omega)]
  · rw [List.getElem?_eq_none (by simp [half_len (show 2 * i ≤ l.length by omega)]; omega), List.getElem?_eq_none (by rw [half_len (by omega)]; omega)]
theorem chrs_get {l : List Nat} {i d : Nat} (h : l[i]? = some d) : (chrs l)[i]? = some (u8 (48 + d)) := by simp [h]
theorem bytes_chrs : ∀ (l : List Nat), (∀ d ∈ l, d < 10) → bytesOf (chrs l) = some (l.map chr)
  | [], _ => rfl
  | d :: l, h => by
    have ih := bytes_chrs l fun x hx => h x (by simp [hx])
    simp only [chrs, List.map_cons, bytesOf, Int.toNat_natCast]
    rw [show bytesOf (List.map (fun d => u8 (48 + d)) l) = some (l.map chr) from ih]
    rfl
theorem text_rev (C : CallC) (K : Nat) (lo : Nat) {v : SV} {l : List Nat} (h10 : ∀ d ∈ l, d < 10) (hlen : l.length < 1000000000) : ∀ (n i fuel : Nat) (H : Heap), n + 2 * i + 1 = l.length ∨ (n = 0 ∧ l.length = 2 * i) → n < fuel → Own lo H v (chrs (half l i)) →
    ∃ H', slow.loop3 (f44_l11 slow K C) fuel v (i64 i) (.int .i64 ((l.length : Int) - 1 - i)) H = some (.str (l.reverse.map chr), H') ∧ Fr lo H H' := by
  intro n
  induction n using Nat.strongRecOn with
  | ind n ih =>
    intro i fuel H hn hf ho
    obtain ⟨fuel, rfl⟩ : ∃ m, fuel = m + 1 := ⟨fuel - 1, by omega⟩
    by_cases hlt : 2 * i + 1 < l.length
    · have hn' : n + 2 * i + 1 = l.length := by omega
      have hc : ((i : Nat) : Int) < (l.length : Int) - 1 - (i : Int) := by omega
      have ej : ((l.length : Int) - 1 - (i : Int)) = ((l.length - 1 - i : Nat) : Int) := by omega
      obtain ⟨x, hx⟩ : ∃ x, l[i]? = some x := ⟨_, List.getElem?_eq_getElem (by omega)⟩
      obtain ⟨y, hy⟩ : ∃ y, l[l.length - 1 - i]? = some y := ⟨_, List.getElem?_eq_getElem (by omega)⟩
      have hgi : (half l i)[i]? = some x := by rw [half_get (by omega) (by omega), if_neg (by omega), hx]
      have hgj : (half l i)[l.length - 1 - i]? = some y := by rw [half_get (by omega) (by omega), if_neg (by omega), hy]
      have hhl := half_len (show 2 * i ≤ l.length by omega)
      obtain ⟨H1, s1, o1, f1, _, _⟩ := ho.store (i := i) (by simp [hhl]; omega) (x := u8 (48 + y)) rfl .i64
      obtain ⟨H2, s2, o2, f2, _, _⟩ := o1.store (i := l.length - 1 - i) (by simp [hhl]; omega) (x := u8 (48 + x)) rfl .i64
      have hset : ((chrs (half l i)).set i (u8 (48 + y))).set (l.length - 1 - i) (u8 (48 + x)) = chrs (half l (i + 1)) := by
        rw [← half_step hlt hx hy]; simp [chrs, List.map_set]
      rw [hset] at o2
      obtain ⟨H3, h3, f3⟩ := ih (n - 2) (by omega) (i + 1) fuel H2 (by omega) (by omega) o2
      refine ⟨H3, ?_, (f1.trans f2).trans f3⟩
      rw [z_loop3]
      simp only [f44_l11, z_lss, decide_eq_true hc, z_cond, cond_true]
      rw [ej, ho.arr.load (chrs_get hgj), ho.arr.load (chrs_get hgi), s1, s2, z_add64 (by omega) (by omega), z_sub64 (by omega) (by omega)]
      have e1 : ((i : Int) + 1) = ((i + 1 : Nat) : Int) := by omega
      have e2 : (((l.length - 1 - i : Nat) : Int) - 1) = ((l.length : Int) - 1 - ((i + 1 : Nat) : Int)) := by omega
      rw [e1, e2]
      exact h3
    · have hc : ¬ ((i : Nat) : Int) < (l.length : Int) - 1 - (i : Int) := by omega
      rw [half_end (by omega) (by omega)] at ho
      obtain ⟨s, rfl, e1, e2⟩ := ho.arr.elems
      refine ⟨H, ?_, Fr.refl _ _⟩
      rw [z_loop3]
      simp only [f44_l11, z_lss, decide_eq_false hc, z_cond, cond_false]
      show ((opR .str [.slice s] H).bind _) = _
      simp only [opR, e2, Option.bind_some, bytes_chrs l.reverse (fun d hd => h10 d (List.mem_reverse.1 hd)), Option.map_some]
      rfl
/-- The outer loop. -/
theorem text_out (K : Nat) (d : Nat) (lo : Nat) (N : Nat) (hN : N < 1000000000) (hK : N < K) (hK9 : 9 < K) {n : Nat} (hdec : (decLE n).length ≤ N) : ∀ (m : Nat) (fuel : Nat) (H : Heap) (sl out : SV) (r : Nat) (post : List SV) (pre : List Nat), (decLE m).length < fuel → (digs m).length ≤ N → lo ≤ H.size → Wr lo H sl r [] (limbs (digs m)) post → Root sl → sl.flat = true → Own lo H out (chrs pre) → ¬ inRow out r → pre ++ decLE m = decLE n →
    ∃ H', slow.loop2 (f44_l2 slow K (runQ wk tab slow K (d + 1))) fuel sl out H = some (.str ((decLE n).reverse.map chr), H') ∧ Fr lo H H' := by
  intro m
  induction m using Nat.strongRecOn with
  | ind m ih =>
    intro fuel H sl out r post pre hf hmN hlo hw hroot hfl ho hnr hpre
    obtain ⟨fuel, rfl⟩ : ∃ m, fuel = m + 1 := ⟨fuel - 1, by omega⟩
    rw [z_loop2]
    by_cases h0 : m = 0
    · subst h0
      rw [decLE_zero, List.append_nil] at hpre
      subst hpre
      have hl0 : Arr H sl (limbs (digs 0)) := hw.arr
      rw [digs_zero] at hl0
      have e1 : ¬ (((([] : List Nat).length : Nat) : Int) > 0) := by simp
      simp only [f44_l2, blen hl0, z_gtr, decide_eq_false e1, z_cond, cond_false]
      have hol : ∀ k, slow.len out k = k (i64 (decLE n).length) := fun k => by rw [ho.arr.len]; simp
      rw [hol, show (SV.int .i64 1) = i64 1 from rfl, z_sub64 (by omega) (by omega)]
      have hr := text_rev (runQ wk tab slow K (d + 1)) K lo (v := out) (l := decLE n) decLE_lt (by omega) ((decLE n).length - 1) 0 K H (by omega) (by omega) (by rw [half_zero]; exact ho)
      have e : ((decLE n).length : Int) - 1 - ((0 : Nat) : Int) = ((decLE n).length : Int) - 1 := by omega
      rw [e] at hr
      exact hr
    · have hpos : ((digs m).length : Int) > 0 := by
        have : digs m ≠ [] := fun e => h0 (digs_nil.1 e)
        have := List.length_pos_iff.2 this
        omega
      have hs := digs_small m
      have hb : (1000000000 : Nat) < B := by decide
      obtain ⟨H1, h1, hw1, f1, sz1, hr1⟩ := short_ok K d H (b := 1000000000) (by decide) hb hs (by omega) (by omega) hw
      obtain ⟨s1, s2, s3, s4⟩ := shortL_spec (b := 1000000000) (by decide) hb hs
      obtain ⟨sl', h2, hcut⟩ := cut_ok K d H1 (ds := (shortL 1000000000 (digs m)).1) hw1.arr s4 hroot (by omega) (by omega)
      have hv := (shortL_val (b := 1000000000) (by decide) hb hs).1
      rw [val_digs] at hv
      obtain ⟨c1, c2, c3, c4⟩ := hcut
      obtain ⟨post', hw2⟩ := c4 lo r [] post hw1
      rw [hv] at c1 hw2
      have ho1 : Own lo H1 out (chrs pre) := Own.of_rows ho fun r' hi => hr1 r' fun e => hnr (e ▸ hi)
      have hlt : val (digs m) % 1000000000 < 10 ^ 9 := by rw [val_digs]; exact Nat.mod_lt _ (by decide)
      have e10 : m % 1000000000 + 10 ^ 9 * (m / 1000000000) = m := Nat.mod_add_div m 1000000000
      obtain ⟨out', H2, pre', h3, f2, hw3, ho3, hnr3, hp3⟩ := text_in (runQ wk tab slow K (d + 1)) K lo c3 c2 (slow.loop2 (f44_l2 slow K (runQ wk tab slow K (d + 1))) fuel) N hN 9 0 (val (digs m) % 1000000000) K H1 out pre rfl hK9 hlt (by omega) hw2 ho1 hnr (by
        rw [val_digs, e10, ← List.length_append, hpre]; exact hdec)
      rw [val_digs, e10] at hp3
      have hmlt : m / 1000000000 < m := Nat.div_lt_self (Nat.pos_of_ne_zero h0) (by decide)
      have hdl : (digs (m / 1000000000)).length ≤ (digs m).length := by
        have := digs_len_le (n := m / 1000000000) (k := (digs m).length) (Nat.lt_of_le_of_lt (Nat.div_le_self _ _) (by have := val_lt hs; rwa [val_digs] at this))
        exact this
      have hq : (decLE (m / 1000000000)).length < fuel := by
        have h1 := decLE_mono (show m / 1000000000 ≤ m / 10 by omega)
        rw [decLE_pos h0, List.length_cons] at hf
        omega
      obtain ⟨H3, h4, f3⟩ := ih (m / 1000000000) hmlt fuel H2 sl' out' r post' pre' hq (by omega) (Nat.le_trans hlo (Nat.le_trans f1.size f2.size)) hw3 c3 c2 ho3 hnr3 (by rw [hp3, hpre])
      refine ⟨H3, ?_, (f1.trans f2).trans f3⟩
      simp only [f44_l2, blen hw.arr, z_gtr, decide_eq_true hpos, z_cond, cond_true]
      rw [show (SV.int .u32 1000000000) = u32 1000000000 from rfl, h1, z_call, h2, z_call, z_field0, show (SV.int .i64 0) = i64 0 from rfl, h3]
      exact h4
/-- Text: decimal digits. -/
theorem text_ok (K : Nat) (d : Nat) (H : Heap) {v : SV} {n : Nat} (hv : IsNat H v n) (hK : 9 < K) (hdK : (decLE n).length < K) (hgK : (digs n).length < K) (hd : (decLE n).length < 1000000000) (hg : (digs n).length < 1000000000) :
    ∃ H', runQ wk tab slow K (d + 2) 44 [v] H = some (.str (dec n), H') ∧ Frame H H' := by
  obtain ⟨sl, rfl, ha, _⟩ := hv
  show ∃ H', f44 slow K (runQ wk tab slow K (d + 1)) (.agg [sl]) H = _ ∧ _
  by_cases h0 : n = 0
  · subst h0
    rw [digs_zero] at ha
    refine ⟨H, ?_, Fr.refl _ _⟩
    simp only [f44, z_bbox, z_lfld, z_lld0, blen ha, z_eql, z_cond]
    rfl
  · have hne : digs n ≠ [] := fun e => h0 (digs_nil.1 e)
    have hpos : (((digs n).length : Int) == 0) = false := beq_eq_false_iff_ne.2 (by have := List.length_pos_iff.2 hne; omega)
    obtain ⟨v', H1, h1, ho, hf, _, hin, _⟩ := (Own.nil H.size H).append (Nat.le_refl _) ha (by_ := 4) (roomy_small (by simp; omega))
    rw [List.nil_append] at ho
    obtain ⟨r, hw⟩ := ho.wr (by simpa using hne)
    let N := max (decLE n).length (digs n).length
    obtain ⟨H2, h2, f2⟩ := text_out K d H.size N (by omega) (by omega) hK (n := n) (by omega) n K H1 v' (.slice nilSl) r [] [] hdK (by omega) hf.size hw ho.root ho.arr.flat (Own.nil _ _) (not_inRow_nil r) (by simp)
    refine ⟨H2, ?_, hf.trans f2⟩
    simp only [f44, z_bbox, z_lfld, z_lld0, blen ha, z_eql, hpos, z_cond, cond_false, h1]
    rw [h2]
    simp [dec, h0]
end Go.Sh.Of
