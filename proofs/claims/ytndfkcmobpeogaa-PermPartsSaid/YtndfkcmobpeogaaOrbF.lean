/- Contract of the layer perm: Orbits. -/
import Derived.Test.YtndfkcmobpeogaaOrbE
set_option linter.unusedVariables false
set_option linter.unusedSimpArgs false
namespace Go.Sh.Of
open Go

/-- The first error of lists that are to map n points. -/
def genE (n : Int) : List (List Int) → Int
  | [] => 0
  | l :: ls => if ckE l ≠ 0 then ckE l else if (l.length : Int) ≠ n then 180 else genE n ls
def orbE (n : Int) (gens : List (List Int)) : Int := if n < 0 then 2 else if n > 64 then 3 else if gens.length > 16 then 9 else genE n gens
theorem genE_ok {n : Int} : ∀ {ls : List (List Int)}, genE n ls = 0 → ∀ l ∈ ls, ckE l = 0 ∧ (l.length : Int) = n
  | [], _, l, hl => by cases hl
  | a :: ls, h, l, hl => by
    unfold genE at h
    by_cases h1 : ckE a ≠ 0
    · rw [if_pos h1] at h; exact absurd h h1
    · rw [if_neg h1] at h
      by_cases h2 : (a.length : Int) ≠ n
      · rw [if_pos h2] at h; cases h
      · rw [if_neg h2] at h
        rcases List.mem_cons.1 hl with rfl | hl
        · exact ⟨Decidable.not_not.1 h1, Decidable.not_not.1 h2⟩
        · exact genE_ok h l hl
theorem row_uniq {v : SV} {r r' : Nat} (h : inRow v r) (h' : inRow v r') : r = r' := by
  obtain ⟨s, o, rfl, e⟩ := h
  obtain ⟨s', o', e1, e2⟩ := h'
  cases e1
  rw [e] at e2
  cases e2
  rfl
theorem alloc_slice (H : Heap) {v : SV} (hv : v.flat = true) : ∃ H1 H2, (∀ k, slow.alloc [.slice nilSl] H k = k (.ptr (H.size, 0)) H1) ∧ (∀ k, slow.store 1 (.ptr (H.size, 0)) v H1 k = k H2) ∧ Frame H H2 ∧ Holds H2 (.ptr (H.size, 0)) v ∧ H2.size = H.size + 1 := by
  have hg : (H.push (newRow 1 [.slice nilSl])).get H.size = some ⟨2, 1, 0, [.slice nilSl]⟩ := Heap.get_push_self _ _
  refine ⟨_, (H.push (newRow 1 [.slice nilSl])).set H.size ⟨2, 1, 1, [v]⟩, fun k => rfl, fun k => ?_, ⟨by rw [Heap.size_set, Heap.size_push]; omega, fun r hr => ?_⟩, ⟨H.size, _, rfl, Heap.get_set_self hg _, by simp, rfl⟩, by rw [Heap.size_set, Heap.size_push]⟩
  · have hit : v.item = true := by cases v <;> simp_all [SV.item, SV.flat]
    have hce : v.cells = [v] := by cases v <;> simp_all [SV.cells, SV.flat]
    have hb1 : Nat.beq ([v] : List SV).length 1 = true := rfl
    have hb2 : Nat.beq 2 2 = true := rfl
    show (opE (.store 1) [.ptr (H.size, 0), v] (H.push (newRow 1 [.slice nilSl]))).bind _ = _
    simp only [opE, hit, hce, hb1, Bool.true_and, cond_true, Heap.write, hg, hb2, splice_one (cs := [SV.slice nilSl]) (i := 0) (by simp) v, Option.map_some, Option.bind_some, List.set_cons_zero]
  · rw [Heap.get_set_ne _ (by omega), Heap.get_push_ne _ _ (by omega)]
/-- Each point itself, up to i. -/
def upTo (n i : Nat) : List Nat := List.range i ++ List.replicate (n - i) 0
theorem upTo_set {n i : Nat} (h : i < n) : (upTo n i).set i i = upTo n (i + 1) := by
  unfold upTo
  rw [List.set_append_right _ _ (by simp), List.range_succ, List.append_assoc]
  congr 1
  rw [List.length_range, Nat.sub_self, show n - i = (n - (i + 1)) + 1 by omega, List.replicate_succ]
  rfl
theorem upTo_len {n i : Nat} (h : i ≤ n) : (upTo n i).length = n := by simp [upTo]; omega
theorem upTo_all (n : Nat) : upTo n n = List.range n := by simp [upTo]
theorem UInv.start (E : Nat → Nat → Prop) (n : Nat) : UInv E n (List.range n) := by
  have hr : ∀ i, root (List.range n) i = i := fun i => root_self (by
    unfold List.getD
    by_cases h : i < n
    · simp [h]
    · simp [h])
  refine ⟨by simp, fun i x hx => ?_, fun i => by rw [hr]; exact Conn.refl i⟩
  have hi : i < n := by have := (List.getElem?_eq_some_iff.1 hx).1; simpa using this
  simp [hi] at hx
  omega
theorem init_loop (K : Nat) (hK : 1000 < K) (d : Nat) {H0 : Heap} {n : Nat} (hn : n ≤ 64) {p v vg : SV} (gl : Nat) (hvg : ∀ k, slow.len vg k = k (i64 gl)) (hpv : ∀ r, inRow v r → p ≠ .ptr (r, 0)) (hvr : ∀ r, inRow v r → H0.size ≤ r) (hpg : p.good = true) : ∀ (m i fuel : Nat) (H : Heap), i + m = n → m < fuel → Frame H0 H → Own H0.size H v (natsL (upTo n i)) → Holds H p v →
    ∃ H', slow.loop5 (f5_l11 slow K (runQ wk tab slow K (d + 1))) fuel (i64 n) vg p (i64 n) (i64 i) H = slow.loop6 (f5_l15 slow K (runQ wk tab slow K (d + 1))) K (i64 n) p (.fn 11 [] [p]) vg (i64 gl) (i64 0) H' ∧ Frame H0 H' ∧ Own H0.size H' v (natsL (List.range n)) ∧ Holds H' p v ∧ H'.size = H.size
  | 0, i, fuel, H, him, hf, hfr, ho, hp => by
    obtain ⟨fuel, rfl⟩ : ∃ m, fuel = m + 1 := ⟨fuel - 1, by omega⟩
    have hi : i = n := by omega
    subst hi
    rw [upTo_all] at ho
    refine ⟨H, ?_, hfr, ho, hp, rfl⟩
    rw [z_loop5]
    have hlt : ¬ i < i := Nat.lt_irrefl i
    simp only [f5_l11, n_lss, decide_eq_false hlt, z_cond, cond_false, z_mkfn0 _ hpg, hvg]
    rfl
  | m + 1, i, fuel, H, him, hf, hfr, ho, hp => by
    obtain ⟨fuel, rfl⟩ : ∃ m, fuel = m + 1 := ⟨fuel - 1, by omega⟩
    have hi : i < n := by omega
    obtain ⟨H1, st, ho1, f1, sz1, hro⟩ := ho.store (i := i) (by rw [natsL_len, upTo_len (by omega)]; exact hi) (x := i64 i) rfl .i64
    rw [natsL_set, upTo_set hi] at ho1
    have hp1 : Holds H1 p v := Holds.ofr hp fun r e => hro r fun h => hpv r h e
    have on1 : Only v H H1 := ⟨sz1, hro⟩
    obtain ⟨H2, h2, f2, ho2, hp2, sz2⟩ := init_loop K hK d hn gl hvg hpv hvr hpg m (i + 1) fuel H1 (by omega) (by omega) (on1.frame hfr hvr) ho1 hp1
    refine ⟨H2, ?_, f2, ho2, hp2, by omega⟩
    rw [z_loop5]
    simp only [f5_l11, n_lss, decide_eq_true hi, z_cond, cond_true, hp.load, st]
    rw [show (SV.int .i64 1) = i64 1 from rfl, n_addi _ (by omega)]
    exact h2
/-- What Orbits tells: each point's least point, by a map that is one on pairs. -/
def IsLeast (gens : List (List Int)) (F : Nat → Nat) : Prop := (∀ i, F i ≤ i) ∧ (∀ i, Conn (Epair gens) i (F i)) ∧ ∀ i k, Epair gens i k → F i = F k
theorem orb_good (K : Nat) (hK : 1000 < K) (d : Nat) (H : Heap) {n : Nat} (hn : n ≤ 64) {gens : List (List Int)} (hgl : gens.length ≤ 16) {vg : SV} {ws : List SV} (hvg : Arr H vg ws) (hwl : ws.length = gens.length) (hws : ∀ (g : Nat) w l, ws[g]? = some w → gens[g]? = some l → Arr H w (intsL .i64 l)) (hok : ∀ l ∈ gens, ckE l = 0 ∧ (l.length : Int) = n) (fuel : Nat) (y14 : SV) :
    ∃ r H' F, slow.loop5 (f5_l5 slow K (runQ wk tab slow K (d + 1))) (fuel + 1) (i64 n) vg y14 (i64 gens.length) (i64 gens.length) H = some (.tuple [r, .int .i64 0], H') ∧ Frame H H' ∧ IsLeast gens F ∧ IsPts H' r (orbsTo F n) := by
  have hvl : ∀ k, slow.len vg k = k (i64 gens.length) := fun k => by rw [hvg.len, hwl]
  obtain ⟨v, H1, h1, o1, f1, in1, sz1⟩ := z_make (H := H) (lo := H.size) (Nat.le_refl _) 8 (.int .i64 0) n (by omega) (roomy_small (by omega)) .i64 .i64
  have e0 : List.replicate n (SV.int .i64 0) = natsL (upTo n 0) := by simp [natsL, upTo]
  rw [e0] at o1
  have hvrow : ∀ r, inRow v r → r = H.size := fun r hr => row_uniq hr in1
  obtain ⟨H2, H3, a2, s3, f3, p3, sz3⟩ := alloc_slice H1 o1.arr.flat
  have o3 := o1.fr f3
  have hvl3 : ∀ k, slow.len v k = k (i64 n) := fun k => by rw [o1.arr.len, natsL_len, upTo_len (by omega)]
  have hpv : ∀ r, inRow v r → SV.ptr (H1.size, 0) ≠ .ptr (r, 0) := fun r hr e => by
    have := hvrow r hr
    cases e
    omega
  have hvr : ∀ r, inRow v r → H.size ≤ r := fun r hr => by rw [hvrow r hr]; exact Nat.le_refl _
  obtain ⟨H4, h4, f4, o4, p4, sz4⟩ := init_loop K hK d hn gens.length hvl hpv hvr rfl n 0 K H3 (by omega) (by omega) (Frame.trans f1 f3) o3 p3
  have hlm : ∀ l ∈ gens, ∀ x ∈ l, 0 ≤ x ∧ x < (n : Int) := fun l hl x hx => by
    have h2 := ck_mem (hok l hl).1 x hx
    have h3 := (hok l hl).2
    omega
  have hln : ∀ l ∈ gens, l.length = n := fun l hl => by have := (hok l hl).2; omega
  obtain ⟨H5, U, h5, f5, o5, p5, u5, c5, sz5⟩ := gens_loop K hK d hn hgl hpv hvr hvg hwl hws hln hlm gens.length 0 K H4 (List.range n) (by omega) (by omega) f4 o4 p4 (UInv.start _ n) (fun q l hq => by omega)
  obtain ⟨va, H6, h6, o6, f6, in6, sz6⟩ := z_make (H := H5) (lo := H5.size) (Nat.le_refl _) 8 (.int .i64 0) n (by omega) (roomy_small (by omega)) .i64 .i64
  have e6 : List.replicate n (SV.int .i64 0) = natsL (List.replicate n 0) := by simp [natsL]
  rw [e6] at o6
  have harow : ∀ r, inRow va r → r = H5.size := fun r hr => row_uniq hr in6
  have hsz : H5.size = H1.size + 1 := by omega
  obtain ⟨r, H7, h7, f7, g7⟩ := emit_loop K hK d (H0 := H) hn (F := root U) (root_le U) (root_root U) (lo1 := H5.size) (lo2 := H6.size) hpv hvr (fun r hr => by have := hvrow r hr; omega) (fun r hr => by have := harow r hr; omega) (by omega) (by omega) (fun r hr e => by
    have := harow r hr
    cases e
    omega) (fun r e => by cases e; omega) n 0 K H6 U (List.replicate n 0) (.slice nilSl) (by omega) (by omega) (Frame.trans f5 f6) (Nat.le_refl _) (o5.fr f6) (p5.fr f6) u5 (fun _ => rfl) o6 (by simp) (fun r hr => by omega) ⟨[], Own.nil _ _, rfl, fun q w l hw => by simp at hw⟩
  refine ⟨r, H7, root U, ?_, f7, ⟨root_le U, u5.conn, c5⟩, g7⟩
  rw [z_loop5]
  have hlt : ¬ gens.length < gens.length := Nat.lt_irrefl _
  simp only [f5_l5, n_lss, decide_eq_false hlt, z_cond, cond_false, h1, a2, s3, p3.load, hvl3]
  rw [show (SV.int .i64 0) = i64 0 from rfl, h4]
  rw [show (SV.int .i64 0) = i64 0 from rfl] at h5
  have h6' : ∀ k, slow.make 1 8 [i64 0] (i64 n) (i64 n) H5 k = k va H6 := fun k => h6 k
  rw [h5, h6']
  exact h7
theorem orb_chk (K : Nat) (hK : 1000 < K) (d : Nat) (H : Heap) {n : Nat} (hn : n ≤ 64) {gens : List (List Int)} (hgl : gens.length ≤ 16) {vg : SV} {ws : List SV} (hvg : Arr H vg ws) (hwl : ws.length = gens.length) (hws : ∀ (g : Nat) w l, ws[g]? = some w → gens[g]? = some l → Arr H w (intsL .i64 l)) : ∀ (rest : List (List Int)) (g fuel : Nat), gens.drop g = rest → rest.length < fuel → (∀ (q : Nat) l, q < g → gens[q]? = some l → ckE l = 0 ∧ (l.length : Int) = n) →
    ∃ r H', slow.loop5 (f5_l5 slow K (runQ wk tab slow K (d + 1))) fuel (i64 n) vg vg (i64 gens.length) (i64 g) H = some (.tuple [r, .int .i64 (genE n rest)], H') ∧ Frame H H' ∧ (genE n rest = 0 → ∃ F, IsLeast gens F ∧ IsPts H' r (orbsTo F n)) ∧ (genE n rest ≠ 0 → r = .slice nilSl)
  | [], g, fuel, hd, hf, hok => by
    obtain ⟨fuel, rfl⟩ : ∃ m, fuel = m + 1 := ⟨fuel - 1, by omega⟩
    have hg : gens.length ≤ g := by have := List.drop_eq_nil_iff.1 hd; omega
    have hall : ∀ l ∈ gens, ckE l = 0 ∧ (l.length : Int) = n := fun l hl => by
      obtain ⟨q, hq⟩ := List.getElem?_of_mem hl
      exact hok q l (by have := (List.getElem?_eq_some_iff.1 hq).1; omega) hq
    obtain ⟨r, H', F, h1, f1, g1, g2⟩ := orb_good K hK d H hn hgl hvg hwl hws hall fuel vg
    refine ⟨r, H', ?_, f1, fun _ => ⟨F, g1, g2⟩, fun h => absurd rfl h⟩
    rw [z_loop5] at h1 ⊢
    have hlt : ¬ g < gens.length := by omega
    have hlt2 : ¬ gens.length < gens.length := Nat.lt_irrefl _
    simp only [f5_l5, n_lss, decide_eq_false hlt, decide_eq_false hlt2, z_cond, cond_false] at h1 ⊢
    exact h1
  | l :: rest, g, fuel, hd, hf, hok => by
    obtain ⟨fuel, rfl⟩ : ∃ m, fuel = m + 1 := ⟨fuel - 1, by omega⟩
    obtain ⟨hl, hd', hg, _⟩ := drop_cons hd
    obtain ⟨w, hw⟩ : ∃ w, ws[g]? = some w := ⟨_, List.getElem?_eq_getElem (by omega)⟩
    have ha := hws g w l hw hl
    have hc := check_ok K (by omega) d H ha
    rw [z_loop5]
    simp only [f5_l5, n_lss, decide_eq_true hg, z_cond, cond_true, hvg.load hw, hc, z_call, z_neq]
    by_cases h1 : ckE l ≠ 0
    · have e : genE n (l :: rest) = ckE l := by unfold genE; rw [if_pos h1]
      have hb : (ckE l != 0) = true := bne_iff_ne.2 h1
      rw [hb, e]
      simp only [cond_true, z_rest_int]
      exact ⟨_, H, rfl, Fr.refl _ _, fun h => absurd h h1, fun _ => rfl⟩
    · have h1' : ckE l = 0 := Decidable.not_not.1 h1
      have hb : (ckE l != 0) = false := by rw [h1']; rfl
      rw [hb]
      simp only [cond_false, alen ha, z_neq, z_cond]
      by_cases h2 : (l.length : Int) ≠ n
      · have e : genE n (l :: rest) = 180 := by unfold genE; rw [if_neg h1, if_pos h2]
        have hb2 : ((l.length : Int) != (n : Int)) = true := bne_iff_ne.2 h2
        rw [hb2, e]
        exact ⟨_, H, rfl, Fr.refl _ _, (fun h => by cases h), fun _ => rfl⟩
      · have h2' : (l.length : Int) = n := Decidable.not_not.1 h2
        have e : genE n (l :: rest) = genE n rest := by
          conv => lhs; unfold genE
          rw [if_neg h1, if_neg h2]
        have hb2 : ((l.length : Int) != (n : Int)) = false := by rw [h2']; exact bne_self_eq_false _
        rw [hb2, e]
        simp only [cond_false]
        rw [show (SV.int .i64 1) = i64 1 from rfl, n_addi _ (by omega)]
        exact orb_chk K hK d H hn hgl hvg hwl hws rest (g + 1) fuel hd' (by simp at hf; omega) (fun q l' hq hl' => by
          by_cases hqg : q = g
          · subst hqg
            rw [hl] at hl'
            cases hl'
            exact ⟨h1', h2'⟩
          · exact hok q l' (by omega) hl')
/-- Slices of numbers of the machine. -/
def IsLists (H : Heap) (v : SV) (gens : List (List Int)) : Prop := ∃ ws, Arr H v ws ∧ ws.length = gens.length ∧ ∀ (g : Nat) w l, ws[g]? = some w → gens[g]? = some l → Arr H w (intsL .i64 l)
theorem IsLists.fr {H H' : Heap} {v : SV} {gens : List (List Int)} (h : IsLists H v gens) (f : Frame H H') : IsLists H' v gens := by
  obtain ⟨ws, h1, h2, h3⟩ := h
  exact ⟨ws, h1.fr f, h2, fun g w l hw hl => (h3 g w l hw hl).fr f⟩
theorem orbits_ok (K : Nat) (hK : 1000 < K) (d : Nat) (H : Heap) (n : Int) {vg : SV} {gens : List (List Int)} (hg : IsLists H vg gens) :
    ∃ r H', runQ wk tab slow K (d + 2) 5 [.int .i64 n, vg] H = some (.tuple [r, .int .i64 (orbE n gens)], H') ∧ Frame H H' ∧ (orbE n gens = 0 → ∃ F, IsLeast gens F ∧ IsPts H' r (orbsTo F n.toNat)) ∧ (orbE n gens ≠ 0 → r = .slice nilSl) := by
  obtain ⟨ws, h1, h2, h3⟩ := hg
  show ∃ r H', f5 slow K (runQ wk tab slow K (d + 1)) (.int .i64 n) vg H = _ ∧ _
  simp only [f5, z_lss, z_cond, z_gtr, h1.len]
  by_cases a1 : n < 0
  · have e : orbE n gens = 2 := by unfold orbE; rw [if_pos a1]
    rw [decide_eq_true a1, e]
    exact ⟨_, H, rfl, Fr.refl _ _, (fun h => by cases h), fun _ => rfl⟩
  · rw [decide_eq_false a1, cond_false]
    by_cases a2 : n > 64
    · have e : orbE n gens = 3 := by unfold orbE; rw [if_neg a1, if_pos a2]
      rw [decide_eq_true a2, e]
      exact ⟨_, H, rfl, Fr.refl _ _, (fun h => by cases h), fun _ => rfl⟩
    · rw [decide_eq_false a2, cond_false]
      by_cases a3 : gens.length > 16
      · have e : orbE n gens = 9 := by unfold orbE; rw [if_neg a1, if_neg a2, if_pos a3]
        have a3' : ((ws.length : Nat) : Int) > 16 := by omega
        rw [decide_eq_true a3', e]
        exact ⟨_, H, rfl, Fr.refl _ _, (fun h => by cases h), fun _ => rfl⟩
      · have e : orbE n gens = genE n gens := by unfold orbE; rw [if_neg a1, if_neg a2, if_neg a3]
        have a3' : ¬ ((ws.length : Nat) : Int) > 16 := by omega
        rw [decide_eq_false a3', cond_false, e]
        obtain ⟨m, rfl⟩ : ∃ m : Nat, n = m := ⟨n.toNat, by omega⟩
        rw [h2, show (SV.int .i64 0) = i64 0 from rfl]
        exact orb_chk K hK d H (by omega) (by omega) h1 h2 h3 gens 0 K rfl (by omega) (fun q l hq => by omega)
end Go.Sh.Of
