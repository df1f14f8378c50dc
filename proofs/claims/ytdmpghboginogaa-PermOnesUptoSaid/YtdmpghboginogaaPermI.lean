/- Lists of points: no number twice; shuffled lists. -/
import Derived.Test.YtdmpghboginogaaPermS
import Derived.Test.YtdmpghboginogaaSh31
set_option linter.unusedVariables false
set_option linter.unusedSimpArgs false
namespace Go.Sh.Of
open Go

theorem sub_len {A B : List Nat} (hA : A.Nodup) (h : ∀ x ∈ A, x ∈ B) : A.length ≤ B.length := by
  induction A generalizing B with
  | nil => simp
  | cons a A ih =>
    rw [List.nodup_cons] at hA
    have ha := h a (by simp)
    have h1 := ih (B := B.erase a) hA.2 fun x hx => by
      have hne : x ≠ a := fun e => hA.1 (e ▸ hx)
      exact (List.mem_erase_of_ne hne).2 (h x (by simp [hx]))
    rw [List.length_erase_of_mem ha] at h1
    have := List.length_pos_of_mem ha
    simp only [List.length_cons]
    omega
theorem sub_all {A B : List Nat} (hA : A.Nodup) (h : ∀ x ∈ A, x ∈ B) (hl : B.length ≤ A.length) {b : Nat} (hb : b ∈ B) : b ∈ A := Decidable.byContradiction fun hn => by
  have h1 := sub_len (A := b :: A) (B := B) (List.nodup_cons.2 ⟨hn, hA⟩) fun x hx => by
    rcases List.mem_cons.1 hx with rfl | hx
    · exact hb
    · exact h x hx
  simp only [List.length_cons] at h1
  omega
/-- No number stands at two places. -/
def Inj (l : List Int) : Prop := ∀ (i j : Nat) (x : Int), l[i]? = some x → l[j]? = some x → i = j
theorem Inj.nodup {l : List Int} (h : Inj l) : l.Nodup := by
  unfold List.Nodup
  rw [List.pairwise_iff_getElem]
  intro i j hi hj hij e
  have := h i j l[i] (List.getElem?_eq_getElem hi) (by rw [e]; exact List.getElem?_eq_getElem hj)
  omega
theorem nodup_inj {l : List Int} (h : l.Nodup) : Inj l := fun i j x hi hj => by
  unfold List.Nodup at h
  rw [List.pairwise_iff_getElem] at h
  obtain ⟨li, ei⟩ := List.getElem?_eq_some_iff.1 hi
  obtain ⟨lj, ej⟩ := List.getElem?_eq_some_iff.1 hj
  rcases Nat.lt_trichotomy i j with hlt | e | hlt
  · exact absurd (ei.trans ej.symm) (h i j li lj hlt)
  · exact e
  · exact absurd (ej.trans ei.symm) (h j i lj li hlt)
theorem ckGo_nodup {n : Nat} : ∀ {l seen : List Int}, ckGo n l seen = true → l.Nodup ∧ ∀ x ∈ l, x ∉ seen
  | [], seen, _ => ⟨List.nodup_nil, fun x hx => by cases hx⟩
  | x :: l, seen, h => by
    unfold ckGo at h
    split at h
    · cases h
    · rename_i hx
      obtain ⟨h1, h2⟩ := ckGo_nodup h
      refine ⟨List.nodup_cons.2 ⟨fun hm => h2 x hm (by simp), h1⟩, fun y hy => ?_⟩
      rcases List.mem_cons.1 hy with rfl | hy
      · exact fun h => hx (.inr (.inr h))
      · exact fun h => h2 y hy (by simp [h])
theorem ckGo_of {n : Nat} : ∀ {l seen : List Int}, l.Nodup → (∀ x ∈ l, 0 ≤ x ∧ x < n ∧ x ∉ seen) → ckGo n l seen = true
  | [], seen, _, _ => rfl
  | x :: l, seen, h, hs => by
    rw [List.nodup_cons] at h
    obtain ⟨a, b, c⟩ := hs x (by simp)
    unfold ckGo
    rw [if_neg (by rintro (h | h | h); omega; omega; exact c h)]
    refine ckGo_of h.2 fun y hy => ?_
    obtain ⟨a', b', c'⟩ := hs y (by simp [hy])
    refine ⟨a', b', fun hm => ?_⟩
    rcases List.mem_append.1 hm with hm | hm
    · exact c' hm
    · rw [List.mem_singleton.1 hm] at hy
      exact h.1 hy
theorem ck_inj {l : List Int} (h : ckE l = 0) : Inj l := nodup_inj (ckGo_nodup (ck_zero h).2).1
theorem ck_of {l : List Int} (hl : l.length ≤ 64) (hi : Inj l) (hr : ∀ x ∈ l, 0 ≤ x ∧ x < l.length) : ckE l = 0 := by
  unfold ckE
  rw [if_neg (by omega), if_pos (ckGo_of hi.nodup fun x hx => ⟨(hr x hx).1, (hr x hx).2, by simp⟩)]
/-- Two places change. -/
theorem swap_get {l : List Int} {i k : Nat} {a b : Int} (hi : l[i]? = some a) (hk : l[k]? = some b) (j : Nat) : ((l.set i b).set k a)[j]? = l[if j = k then i else if j = i then k else j]? := by
  have h1 := (List.getElem?_eq_some_iff.1 hi).1
  have h2 := (List.getElem?_eq_some_iff.1 hk).1
  by_cases hjk : j = k
  · subst hjk
    rw [if_pos rfl, List.getElem?_set_self (by simpa using h2), hi]
  · rw [if_neg hjk, List.getElem?_set_ne (Ne.symm hjk)]
    by_cases hji : j = i
    · subst hji
      rw [if_pos rfl, List.getElem?_set_self h1, hk]
    · rw [if_neg hji, List.getElem?_set_ne (Ne.symm hji)]
theorem swap_inj {l : List Int} (h : Inj l) {i k : Nat} {a b : Int} (hi : l[i]? = some a) (hk : l[k]? = some b) : Inj ((l.set i b).set k a) := fun p q x hp hq => by
  rw [swap_get hi hk] at hp hq
  have := h _ _ x hp hq
  split at this <;> split at this <;> (try split at this) <;> (try split at this) <;> omega
theorem swap_mem {l : List Int} {i k : Nat} {a b : Int} (hi : l[i]? = some a) (hk : l[k]? = some b) {x : Int} (hx : x ∈ (l.set i b).set k a) : x ∈ l := by
  obtain ⟨j, hj⟩ := List.getElem?_of_mem hx
  rw [swap_get hi hk] at hj
  exact List.mem_of_getElem? hj
abbrev natsL (U : List Nat) : List SV := U.map i64
theorem natsL_get {U : List Nat} {i x : Nat} (h : U[i]? = some x) : (natsL U)[i]? = some (i64 x) := by simp [h]
theorem natsL_set (U : List Nat) (i x : Nat) : (natsL U).set i (i64 x) = natsL (U.set i x) := by simp [natsL, List.map_set]
theorem natsL_len (U : List Nat) : (natsL U).length = U.length := by simp
theorem natsL_inj : ∀ {U V : List Nat}, natsL U = natsL V → U = V
  | [], [], _ => rfl
  | [], _ :: _, h => by simp at h
  | _ :: _, [], h => by simp at h
  | a :: U, b :: V, h => by
    simp only [natsL, List.map_cons, List.cons.injEq, SV.int.injEq, true_and] at h
    have h2 : natsL U = natsL V := h.2
    rw [natsL_inj h2, show a = b by omega]
theorem Own.ofr {lo : Nat} {H H' : Heap} {v : SV} {cs : List SV} (h : Own lo H v cs) (hr : ∀ r, inRow v r → H'.get r = H.get r) : Own lo H' v cs := by
  obtain ⟨base, rfl, h⟩ := h
  refine ⟨base, rfl, ?_⟩
  rcases h with h | ⟨r, ver, rfl, h2, h3⟩
  · exact .inl h
  · exact .inr ⟨r, ver, rfl, h2, by rw [hr r ⟨_, 0, rfl, rfl⟩]; exact h3⟩
theorem own_lt {lo : Nat} {H : Heap} {v : SV} {cs : List SV} (h : Own lo H v cs) {r : Nat} (hr : inRow v r) : lo ≤ r ∧ r < H.size ∧ ∃ ver, H.get r = some ⟨2, 1, ver, cs⟩ := by
  obtain ⟨base, rfl, h⟩ := h
  obtain ⟨s, o, e, h4⟩ := hr
  cases e
  rcases h with ⟨rfl, _⟩ | ⟨r', ver, rfl, h2, h3⟩
  · cases h4
  · cases h4; exact ⟨h2, Heap.get_lt h3, ver, h3⟩
theorem own_apart {lo lo' : Nat} {H : Heap} {a b : SV} {cs ds : List SV} (ha : Own lo H a cs) (hb : Own lo' H b ds) (hne : cs ≠ ds) {r : Nat} (h1 : inRow a r) : ¬ inRow b r := fun h2 => by
  obtain ⟨_, _, v1, e1⟩ := own_lt ha h1
  obtain ⟨_, _, v2, e2⟩ := own_lt hb h2
  rw [e1] at e2
  cases e2
  exact hne rfl
theorem nil_row (r : Nat) : ¬ inRow (.slice nilSl) r := fun ⟨s, o, e, h⟩ => by cases e; cases h
theorem pushO {lo : Nat} {H : Heap} {t : SV} {cs : List SV} (h : Own lo H t cs) (hl : lo ≤ H.size) (z : SV) {x : SV} (hx : x.flat = true) {by_ : Nat} (hr : roomy (cs.length + 1) by_ = true) :
    ∃ t' H', (∀ k, slow.hbuild 1 [z] [(0, 1)] [x] H (fun u H1 => slow.append 1 by_ t u H1 k) = k t' H') ∧ Own lo H' t' (cs ++ [x]) ∧ Fr lo H H' ∧ (∀ r, ¬ inRow t r → r < H.size → H'.get r = H.get r) ∧ ∀ r, inRow t' r → H.size ≤ r := by
  obtain ⟨u, H1, hu, hou, hfu, hru, hsz⟩ := z_lay1 (H := H) (lo := H.size) (Nat.le_refl _) z hx
  obtain ⟨t', H2, ha, ho2, hf2, hrw, hin, _⟩ := (h.fr hfu).append (Nat.le_trans hl hfu.size) hou.arr (by_ := by_) hr
  refine ⟨t', H2, fun k => by rw [hu, ha], ho2, (hfu.mono hl).trans hf2, fun r hn hlt => by rw [hrw r hn (Nat.lt_of_lt_of_le hlt hfu.size), hfu.rows r hlt], fun r hr' => ?_⟩
  obtain ⟨s, o, e1, e2⟩ := hin (by simp)
  obtain ⟨s', o', e3, e4⟩ := hr'
  rw [e1] at e3
  cases e3
  rw [e2] at e4
  cases e4
  exact hfu.size
def IsPts (H : Heap) (v : SV) (L : List (List Nat)) : Prop := ∃ ws, Arr H v ws ∧ ws.length = L.length ∧ ∀ (q : Nat) w l, ws[q]? = some w → L[q]? = some l → Arr H w (natsL l)
def OutOk (lo : Nat) (H : Heap) (out : SV) (L : List (List Nat)) : Prop := ∃ ws, Own lo H out ws ∧ ws.length = L.length ∧ ∀ (q : Nat) w l, ws[q]? = some w → L[q]? = some l → Own lo H w (natsL l)
theorem out_kind {lo : Nat} {H : Heap} {out : SV} {L : List (List Nat)} {ws : List SV} (ho : Own lo H out ws) (hl : ws.length = L.length) (h : ∀ (q : Nat) w l, ws[q]? = some w → L[q]? = some l → Own lo H w (natsL l)) {q : Nat} {w : SV} {l : List Nat} (hw : ws[q]? = some w) (hq : L[q]? = some l) {r : Nat} (hr : inRow w r) : ¬ inRow out r := by
  have h1 := h q w l hw hq
  refine own_apart h1 ho (fun e => ?_) hr
  have hm : w ∈ natsL l := by rw [e]; exact List.mem_of_getElem? hw
  obtain ⟨x, _, hx⟩ := List.mem_map.1 hm
  obtain ⟨base, e2, _⟩ := h1
  rw [e2] at hx
  cases hx
theorem placeV {lo : Nat} {H : Heap} {v : SV} {cs : List SV} (h : Own lo H v cs) {i : Nat} {x : SV} (hx : cs[i]? = some x) : ∃ r, inRow v r.1 ∧ (∀ k, slow.idx 1 v (i64 i) k = k (.ptr r)) ∧ ∀ k, slow.load 1 false (.ptr r) H k = k x := by
  have hi : i < cs.length := (List.getElem?_eq_some_iff.1 hx).1
  obtain ⟨base, rfl, h⟩ := h
  rcases h with ⟨_, rfl⟩ | ⟨r, ver, rfl, _, h2⟩
  · simp at hi
  · have hc : 0 ≤ (i : Int) ∧ (i : Int) < cs.length := ⟨by omega, by omega⟩
    have b3 : (⟨2, 1, ver, cs⟩ : Row).kind ≠ 0 := by simp
    refine ⟨(r, 0 + (i : Int).toNat * 1), ⟨_, 0, rfl, rfl⟩, fun k => ?_, fun k => ?_⟩
    · show (opP (.idx 1) [.slice ⟨some (r, 0), cs.length, none, 0⟩, i64 i]).bind _ = _
      simp only [opP, if_pos hc, Option.bind_some]
    · show (opR (.load 1 false) [.ptr (r, 0 + (i : Int).toNat * 1)] H).bind k = _
      have hcut : cut cs (0 + (i : Int).toNat * 1) 1 = some [x] := by
        rw [Int.toNat_natCast, Nat.mul_one, Nat.zero_add]
        exact cut_one hx
      simp only [opR, Heap.read, h2, beq_ne b3, cond_false, hcut, shaped, Option.bind_some]
def upTo (n i : Nat) : List Nat := List.range i ++ List.replicate (n - i) 0
theorem upTo_set {n i : Nat} (h : i < n) : (upTo n i).set i i = upTo n (i + 1) := by
  unfold upTo
  rw [List.set_append_right _ _ (by simp), List.range_succ, List.append_assoc]
  congr 1
  rw [List.length_range, Nat.sub_self, show n - i = (n - (i + 1)) + 1 by omega, List.replicate_succ]
  rfl
theorem upTo_len {n i : Nat} (h : i ≤ n) : (upTo n i).length = n := by simp [upTo]; omega
theorem upTo_all (n : Nat) : upTo n n = List.range n := by simp [upTo]
theorem nats_ints (U : List Nat) : natsL U = intsL .i64 (U.map fun (n : Nat) => (n : Int)) := by
  simp only [natsL, intsL, List.map_map]
  rfl
theorem sh_swap (K : Nat) (C : CallC) {H0 : Heap} {n : Nat} (h1 : 0 < n) (hn : n ≤ 64) {a v : SV} {p : List Int} (ha : Arr H0 a (intsL .u8 p)) (hp : ∀ x ∈ p, 0 ≤ x ∧ x < 256) : ∀ (m i fuel : Nat) (H : Heap) (l : List Int), i + m = n → m < fuel → Frame H0 H → Own H0.size H v (intsL .i64 l) → l.length = n → Inj l → (∀ x ∈ l, 0 ≤ x ∧ x < n) →
    ∃ H' l', slow.loop4 (f6_l5 slow K C) fuel a (i64 n) v (i64 i) H = some (v, H') ∧ Frame H0 H' ∧ Own H0.size H' v (intsL .i64 l') ∧ l'.length = n ∧ Inj l' ∧ ∀ x ∈ l', 0 ≤ x ∧ x < n
  | 0, i, fuel, H, l, him, hf, hfr, ho, hl, hi, hm => by
    obtain ⟨fuel, rfl⟩ : ∃ m, fuel = m + 1 := ⟨fuel - 1, by omega⟩
    have hin : ¬ i < n := by omega
    refine ⟨H, l, ?_, hfr, ho, hl, hi, hm⟩
    rw [z_loop4]
    simp only [f6_l5, n_lss, decide_eq_false hin, z_guard, cond_false, f6_j6, z_cond, z_rest ho.arr.good]
  | m + 1, i, fuel, H, l, him, hf, hfr, ho, hl, hi, hm => by
    obtain ⟨fuel, rfl⟩ : ∃ m, fuel = m + 1 := ⟨fuel - 1, by omega⟩
    have hin : i < n := by omega
    by_cases hip : i < p.length
    · obtain ⟨x, hx⟩ : ∃ x, p[i]? = some x := ⟨_, List.getElem?_eq_getElem hip⟩
      obtain ⟨x0, x1⟩ := hp x (List.mem_of_getElem? hx)
      obtain ⟨b, rfl⟩ : ∃ b : Nat, x = b := ⟨x.toNat, by omega⟩
      have hk : b % n < n := Nat.mod_lt _ h1
      obtain ⟨y, hy⟩ : ∃ y, l[i]? = some y := ⟨_, List.getElem?_eq_getElem (by omega)⟩
      obtain ⟨z, hz⟩ : ∃ z, l[b % n]? = some z := ⟨_, List.getElem?_eq_getElem (by omega)⟩
      obtain ⟨H1, st1, ho1, f1, sz1, hro1⟩ := ho.store (i := i) (by simp; omega) (x := .int .i64 z) rfl .i64
      obtain ⟨H2, st2, ho2, f2, sz2, hro2⟩ := ho1.store (i := b % n) (by simp; omega) (x := .int .i64 y) rfl .i64
      rw [show ((intsL .i64 l).set i (.int .i64 z)).set (b % n) (.int .i64 y) = intsL .i64 ((l.set i z).set (b % n) y) by simp [intsL, List.map_set]] at ho2
      obtain ⟨H3, l3, h3, g3⟩ := sh_swap K C h1 hn ha hp m (i + 1) fuel H2 _ (by omega) (by omega) (Fr.trans hfr (Fr.trans f1 f2)) ho2 (by simp [hl]) (swap_inj hi hy hz) (fun x hx => hm x (swap_mem hy hz hx))
      refine ⟨H3, l3, ?_, g3⟩
      rw [z_loop4]
      simp only [f6_l5, n_lss, decide_eq_true hin, z_guard, cond_true, alen (ha.fr hfr), decide_eq_true hip, f6_j6, z_cond, (ha.fr hfr).load (ints_get hx), n_convi _ .u8 b (by omega), n_rem _ .i64 b (Nat.pos_iff_ne_zero.1 h1), ho.arr.load (ints_get hy), ho.arr.load (ints_get hz), st1, st2]
      rw [show (SV.int .i64 1) = i64 1 from rfl, n_addi _ (by omega)]
      exact h3
    · refine ⟨H, l, ?_, hfr, ho, hl, hi, hm⟩
      rw [z_loop4]
      simp only [f6_l5, n_lss, decide_eq_true hin, z_guard, cond_true, alen (ha.fr hfr), decide_eq_false hip, f6_j6, z_cond, cond_false, z_rest ho.arr.good]
theorem sh_init (K : Nat) (C : CallC) {H0 : Heap} {n : Nat} (hn : n ≤ 64) {v a : SV} : ∀ (m i fuel : Nat) (H : Heap), i + m = n → m < fuel → Frame H0 H → Own H0.size H v (natsL (upTo n i)) →
    ∃ H', slow.loop4 (f6_l1 slow K C) fuel a (i64 n) v (i64 i) H = slow.loop4 (f6_l5 slow K C) K a (i64 n) v (i64 0) H' ∧ Frame H0 H' ∧ Own H0.size H' v (natsL (List.range n))
  | 0, i, fuel, H, him, hf, hfr, ho => by
    obtain ⟨fuel, rfl⟩ : ∃ m, fuel = m + 1 := ⟨fuel - 1, by omega⟩
    have hi : i = n := by omega
    subst hi
    rw [upTo_all] at ho
    refine ⟨H, ?_, hfr, ho⟩
    rw [z_loop4]
    have hlt : ¬ i < i := Nat.lt_irrefl i
    simp only [f6_l1, n_lss, decide_eq_false hlt, z_cond, cond_false]
    rfl
  | m + 1, i, fuel, H, him, hf, hfr, ho => by
    obtain ⟨fuel, rfl⟩ : ∃ m, fuel = m + 1 := ⟨fuel - 1, by omega⟩
    have hi : i < n := by omega
    obtain ⟨H1, st, ho1, f1, sz1, hro⟩ := ho.store (i := i) (by rw [natsL_len, upTo_len (by omega)]; exact hi) (x := i64 i) rfl .i64
    rw [natsL_set, upTo_set hi] at ho1
    obtain ⟨H2, h2, f2, ho2⟩ := sh_init K C hn m (i + 1) fuel H1 (by omega) (by omega) (Fr.trans hfr f1) ho1
    refine ⟨H2, ?_, f2, ho2⟩
    rw [z_loop4]
    simp only [f6_l1, n_lss, decide_eq_true hi, z_cond, cond_true, st]
    rw [show (SV.int .i64 1) = i64 1 from rfl, n_addi _ (by omega)]
    exact h2
theorem range_inj (n : Nat) : Inj ((List.range n).map fun (k : Nat) => (k : Int)) := fun i j x hi hj => by
  simp only [List.getElem?_map, List.getElem?_range'] at hi hj
  obtain ⟨a, h1, h2⟩ := Option.map_eq_some_iff.1 hi
  obtain ⟨b, h3, h4⟩ := Option.map_eq_some_iff.1 hj
  obtain ⟨l1, e1⟩ := List.getElem?_eq_some_iff.1 h1
  obtain ⟨l2, e2⟩ := List.getElem?_eq_some_iff.1 h3
  simp only [List.getElem_range] at e1 e2
  omega
theorem shuf_ok (K : Nat) (hK : 1000 < K) (d : Nat) (H : Heap) {n : Nat} (h1 : 0 < n) (hn : n ≤ 64) {a : SV} {p : List Int} (ha : Arr H a (intsL .u8 p)) (hp : ∀ x ∈ p, 0 ≤ x ∧ x < 256) :
    ∃ r H' l, runQ wk tab slow K (d + 1) 6 [a, i64 n] H = some (r, H') ∧ Frame H H' ∧ Own H.size H' r (intsL .i64 l) ∧ l.length = n ∧ ckE l = 0 := by
  obtain ⟨v, H1, g1, o1, f1, in1, sz1⟩ := z_make (H := H) (lo := H.size) (Nat.le_refl _) 8 (.int .i64 0) n (by omega) (roomy_small (by omega)) .i64 .i64
  have e0 : List.replicate n (SV.int .i64 0) = natsL (upTo n 0) := by simp [natsL, upTo]
  rw [e0] at o1
  obtain ⟨H2, g2, f2, o2⟩ := sh_init K (runQ wk tab slow K d) (a := a) hn n 0 K H1 (by omega) (by omega) f1 o1
  rw [nats_ints] at o2
  obtain ⟨H3, l, g3, f3, o3, l3, i3, m3⟩ := sh_swap K (runQ wk tab slow K d) h1 hn ha hp n 0 K H2 _ (by omega) (by omega) f2 o2 (by simp) (range_inj n) (fun x hx => by
    obtain ⟨k, hk, rfl⟩ := List.mem_map.1 hx
    have := List.mem_range.1 hk
    omega)
  refine ⟨v, H3, l, ?_, f3, o3, l3, ck_of (by omega) i3 (by rw [l3]; exact m3)⟩
  show f6 slow K (runQ wk tab slow K d) a (i64 n) H = _
  simp only [f6, g1]
  rw [show (SV.int .i64 0) = i64 0 from rfl, g2]
  exact g3

end Go.Sh.Of
