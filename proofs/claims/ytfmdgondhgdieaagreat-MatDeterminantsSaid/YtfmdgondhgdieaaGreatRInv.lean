/- Contracts of the reference's Adjoint and Inverse. -/
import Derived.Test.YtfmdgondhgdieaaGreatRAdj
set_option linter.unusedVariables false
set_option linter.unusedSimpArgs false
namespace Go.Sh.Of
open Go Go.Sh
theorem detR_small2 {R : List (List Int)} (hg : Good R) (h : sqE R = 0) : (detR R).natAbs < 2 ^ 4096 := by
 obtain ⟨hw, hsq⟩ := sq_of h
 have hb := wide_bd hw
 rw [<- hsq, Nat.min_self] at hb
 rw [detR_det' hsq]
 by_cases h0 : R.length = 0
 ·rw [h0]
  exact one_big
 ·refine hb.small (by omega) (s := R.length) (by omega) ?_
  rw [hb.hX]
  exact det_abs (Nat.le_refl _) fun i k hi hk => hb.ent i k hi hk
theorem min_good {R : List (List Int)} {n i j : Nat} (hg : Good R) (hs : sqE R = 0) (hn : R.length = n + 1) (hi : i < n + 1) (hj : j < n + 1) : Good (matOfE (minor2 (ent R) j i) n n) /\ ∃ X cc, Bd n n (ent (matOfE (minor2 (ent R) j i) n n)) n X cc := by
 obtain ⟨hw, hsq⟩ := sq_of hs
 have h16 := hg.rows
 obtain ⟨X, cc, hb⟩ := sq_bd hs
 rw [hn] at hb
 refine ⟨Good.ofE (by omega) (by omega) id fun x y hx hy => ?_, n * cc, cc, hb.less fun x y hx hy => ?_⟩
 ·obtain ⟨r, _, _, h3⟩ := hg.at (i := skip j x) (j := skip i y) (by have := skip_lt (j := j) hx; omega) (by have := skip_lt (j := i) hy; omega)
  exact h3
 ·rw [ent_matOfE hx hy]
  exact hb.ent _ _ (skip_lt hx) (skip_lt hy)
theorem RRow.zrow {lo : Nat} {H : Heap} {t : SV} {f : Nat -> Int} {n : Nat} (h : RRow lo H t ((List.range n).map f)) : RZRow lo H t f n := by
 obtain ⟨els, h1, h2, h3, h4⟩ := h
 refine ⟨els, h1, by simpa using h2, h3, fun q e he => ?_⟩
 have hq : q < n := by have := (List.getElem?_eq_some_iff.1 he).1; simp at h2; omega
 exact h4 q e (f q) he (by simp [hq])
theorem RZRow.rrow {lo : Nat} {H : Heap} {t : SV} {f : Nat -> Int} {n : Nat} (h : RZRow lo H t f n) : RRow lo H t ((List.range n).map f) := by
 obtain ⟨els, h1, h2, h3, h4⟩ := h
 refine ⟨els, h1, by simpa using h2, h3, fun q e z he hz => ?_⟩
 have hq : q < n := by have := (List.getElem?_eq_some_iff.1 he).1; omega
 have : z = f q := by simp [hq] at hz; exact hz.symm
 rw [this]
 exact h4 q e he
theorem RWork.push {lo : Nat} {Hi H : Heap} {m row : SV} {ws : List SV} {E : Mx} {i cols : Nat} (hw : RWork lo Hi m ws E i cols) (hlo : lo <= Hi.size) (hf : Frame Hi H) (hz : RZRow Hi.size H row (E i) cols) (hi : i < 1000) :
  ∃ m' H', (∀ k, slow.hbuild 1 [.slice nilSl] [(0, 1)] [row] H (fun u H1 => slow.append 1 24 m u H1 k) = k m' H') /\ RWork lo H' m' (ws ++ [row]) E (i + 1) cols /\ Fr lo Hi H' := by
 have hwl := hw.len
 have hws := hw.slices
 obtain ⟨els2, o2, _⟩ := hz
 have hz : RZRow Hi.size H row (E i) cols := ⟨els2, o2, ‹_›⟩
 have hw2 := hw.fr hf
 obtain ⟨m', H3, h3, o3, f3, hro3⟩ := push1 hw2.out (Nat.le_trans hlo hf.size) (.slice nilSl) (x := row) o2.arr.flat (by_ := 24) (roomy_small (by omega))
 have hX : ∀ r row', inRow m r -> H.get r = some row' -> ∀ c ∈ row'.cells, ∀ kd n, c ≠ .int kd n := fun r row' hr hg c hc => by
  rw [Own.cells hw2.out hr hg] at hc
  exact isSlice_not_int (hws c hc)
 have cases_q : ∀ (q : Nat) w, (ws ++ [row])[q]? = some w -> (q < i /\ ws[q]? = some w) \/ (q = i /\ w = row) := fun q w hq => by
  by_cases hqw : q < ws.length
  ·rw [List.getElem?_append_left hqw] at hq
   exact .inl ⟨by omega, hq⟩
  ·have hq2 : q = ws.length := by have := (List.getElem?_eq_some_iff.1 hq).1; simp at this; omega
   subst hq2
   simp at hq
   exact .inr ⟨by omega, hq.symm⟩
 have hz3 : RZRow Hi.size H3 row (E i) cols := hz.keep hX hro3 fun r hr hl => ownS_apart hw2.out o2 hl hr
 obtain ⟨els3, os3, l3, c3, i3⟩ := hz3
 refine ⟨m', H3, h3, ⟨o3, by simp [hwl], fun q w hq => ?_, fun q q' w w' r hq hq' hr hr' => ?_⟩, Fr.trans (hf.mono hlo) f3⟩
 ·rcases cases_q q w hq with ⟨a, hq⟩ | ⟨rfl, rfl⟩
  ·obtain ⟨ei, oi, _⟩ := hw2.row q w hq
   exact (hw2.row q w hq).keep hX hro3 fun r hr hl => ownS_apart hw2.out oi hl hr
  ·exact ⟨els3, OwnS.mono2 os3 hlo, l3, c3, i3⟩
 ·rcases cases_q q w hq with ⟨a, b1⟩ | ⟨a, rfl⟩ <;> rcases cases_q q' w' hq' with ⟨a', b2⟩ | ⟨a', rfl⟩
  ·exact hw.dis q q' w w' r b1 b2 hr hr'
  ·obtain ⟨ei, oi, _⟩ := hw.row q w b1
   have h3 := (OwnS.bd oi hr).2
   have h4 := (OwnS.bd os3 hr').1
   omega
  ·obtain ⟨ei, oi, _⟩ := hw.row q' w' b2
   have h3 := (OwnS.bd oi hr').2
   have h4 := (OwnS.bd os3 hr).1
   omega
  ·omega
theorem RWork.rrows {lo : Nat} {H : Heap} {v : SV} {ws : List SV} {E : Mx} {rows cols : Nat} (h : RWork lo H v ws E rows cols) : IsRRows lo H v (matOfE E rows cols) := by
 refine ⟨ws, h.out.arr, by rw [matOfE_len, h.len], fun r hr => (Own.bd h.out hr).1, fun i w zs hw hz => ?_⟩
 have hi : i < rows := by have := (List.getElem?_eq_some_iff.1 hw).1; have := h.len; omega
 have hr := (h.row i w hw).rrow
 have e : zs = (List.range cols).map (E i) := by
  unfold matOfE at hz
  simp [hi] at hz
  exact hz.symm
 rw [e]
 exact ⟨hr.zs, fun r hin => hr.ge hin⟩
theorem par2 (n : Nat) (k : K1) : slow.rem (i64 n) (.int .i64 2) k = k (i64 (n % 2)) := n_rem k .i64 n (b := 2) (by decide)
theorem radj_in (K : Nat) (hK : 3000000 < K) (d : Nat) {H0 Hi : Heap} (h0i : Frame H0 Hi) {lo0 lo : Nat} {va m : SV} {ws : List SV} {R : List (List Int)} {n : Nat} (hva : IsRRows lo0 H0 va R) (hg : Good R) (hs : sqE R = 0) (hn : R.length = n + 1) {i : Nat} (hi : i < n + 1) (hw : RWork lo Hi m ws (adjE R) i (n + 1)) (hlo : lo <= Hi.size) (k5 : SV -> SV -> SV -> Heap -> Rs) : ∀ (q j fuel : Nat) (H : Heap) (t : SV), j + q = n + 1 -> q < fuel -> Frame Hi H -> RRow Hi.size H t ((List.range j).map (adjE R i)) ->
  ∃ m' ws' H', slow.loop5 (f21_l3 slow K (runQ wk tab slow K (d + 7)) k5) fuel va m (i64 i) t (i64 j) H = k5 va m' (i64 (i + 1)) H' /\ Fr lo Hi H' /\ RWork lo H' m' ws' (adjE R) (i + 1) (n + 1)
 | 0, j, fuel, H, t, hjq, hf, hfr, ht => by
  obtain ⟨fuel, rfl⟩ : ∃ q, fuel = q + 1 := ⟨fuel - 1, by omega⟩
  have e : j = n + 1 := by omega
  subst e
  have h16 := hg.rows
  have hlt : ¬ n + 1 < n + 1 := Nat.lt_irrefl _
  have hlen : ∀ k, slow.len va k = k (i64 (n + 1)) := fun k => by rw [(hva.fr (Frame.trans h0i hfr)).len, hn]
  obtain ⟨m', H', h1, w1, f1⟩ := hw.push hlo hfr ht.zrow (by omega)
  refine ⟨m', _, H', ?_, f1, w1⟩
  rw [z_loop5]
  simp only [f21_l3, hlen, n_lss, decide_eq_false hlt, z_cond, cond_false, h1, w_inc (show i < 1000000 by omega)]
 | q + 1, j, fuel, H, t, hjq, hf, hfr, ht => by
  obtain ⟨fuel, rfl⟩ : ∃ q, fuel = q + 1 := ⟨fuel - 1, by omega⟩
  have hj : j < n + 1 := by omega
  have h16 := hg.rows
  obtain ⟨hwide, hsq⟩ := sq_of hs
  have hc : colsOf R = n + 1 := by omega
  have hlen : ∀ k, slow.len va k = k (i64 (n + 1)) := fun k => by rw [(hva.fr (Frame.trans h0i hfr)).len, hn]
  have hlj : ∀ k, slow.lss (i64 j) (i64 (n + 1)) k = k (.bool true) := fun k => by rw [n_lss, decide_eq_true hj]
  obtain ⟨w, H1, h1, f1, n1⟩ := rwithout_ok K hK (d + 6) H (hva.fr (Frame.trans h0i hfr)) hg hn hc hi hj
  rw [show d + 6 + 1 = d + 7 from rfl] at h1
  obtain ⟨hgM, X, cc, hbM⟩ := min_good hg hs hn hi hj
  have lM : (matOfE (minor2 (ent R) j i) n n).length = n := matOfE_len _ _ _
  have cM : colsOf (matOfE (minor2 (ent R) j i) n n) = n := by
   by_cases h0 : 0 < n
   ·exact colsOf_matOfE h0
   ·have : n = 0 := by omega
    subst this
    rfl
  obtain ⟨y, H2, h2, f2, n2⟩ := rdet_ok K hK d H1 n1 hgM (by rw [lM, cM]) (N := n) (X := X) (cc := cc) (by rw [lM, cM]; exact hbM)
  have eD : det (matOfE (minor2 (ent R) j i) n n).length (ent (matOfE (minor2 (ent R) j i) n n)) = det n (minor2 (ent R) j i) := by
   rw [lM]
   exact det_congr fun x y hx hy => ent_matOfE hx hy
  rw [eD] at n2
  have n2' := n2
  obtain ⟨s, rfl, _⟩ := n2
  have hadd : ∀ k, slow.add (i64 i) (i64 j) k = k (i64 (i + j)) := fun k => n_addi k (by omega)
  have hne : ∀ k, slow.neq (i64 ((i + j) % 2)) (.int .i64 0) k = k (.bool (decide ((i + j) % 2 ≠ 0))) := fun k => n_neq k .i64 _ 0
  have eS : (List.range j).map (adjE R i) ++ [adjE R i j] = (List.range (j + 1)).map (adjE R i) := by
   rw [List.range_succ, List.map_append]
   rfl
  have eA : adjE R i j = alt (i + j) * det n (minor2 (ent R) j i) := by
   unfold adjE
   rw [show R.length - 1 = n by omega]
  have go : ∀ b s', IsRZ H2 (.agg [b, s']) (adjE R i j) -> ∃ m' ws' H', f21_j5 slow K (runQ wk tab slow K (d + 7)) (slow.loop5 (f21_l3 slow K (runQ wk tab slow K (d + 7)) k5) fuel) va m (i64 i) t (i64 j) (.box [b, s']) H2 = k5 va m' (i64 (i + 1)) H' /\ Fr lo Hi H' /\ RWork lo H' m' ws' (adjE R) (i + 1) (n + 1) := fun b s' hz => by
   have f02 := Frame.trans f1 f2
   obtain ⟨t', H3, h3, t3, f3⟩ := (ht.fr f02).push (Nat.le_trans hfr.size f02.size) hz (by simp; omega)
   rw [eS] at t3
   obtain ⟨m', ws', H4, h4, g4⟩ := radj_in K hK d h0i hva hg hs hn hi hw hlo k5 q (j + 1) fuel H3 t' (by omega) (by omega) (Fr.trans (Frame.trans hfr f02) f3) t3
   refine ⟨m', ws', H4, ?_, g4⟩
   simp only [f21_j5, z_lload2, h3, w_inc (show j < 1000000 by omega)]
   exact h4
  rw [z_loop5]
  simp only [f21_l3, hlen, hlj, z_cond, cond_true, h1, z_call, h2, z_bst2, hadd, par2, hne]
  by_cases hp : (i + j) % 2 = 0
  ·rw [decide_eq_false fun h => h hp]
   simp only [cond_false]
   refine go _ _ ?_
   rw [eA, alt_par, if_pos hp, Int.one_mul]
   exact n2'
  ·rw [decide_eq_true hp]
   obtain ⟨ny, h5, n5⟩ := rzneg_ok K (d + 6) H2 n2'
   rw [show d + 6 + 1 = d + 7 from rfl] at h5
   have n5' := n5
   obtain ⟨ns, rfl, _⟩ := n5
   simp only [cond_true, z_lload2, h5, z_call, z_bst2]
   refine go _ _ ?_
   rw [eA, alt_par, if_neg hp, Int.neg_one_mul]
   exact n5'
theorem radj_out (K : Nat) (hK : 3000000 < K) (d : Nat) {H0 : Heap} {lo0 : Nat} {va : SV} {R : List (List Int)} {n : Nat} (hva : IsRRows lo0 H0 va R) (hg : Good R) (hs : sqE R = 0) (hn : R.length = n) : ∀ (q i fuel : Nat) (H : Heap) (m : SV) (ws : List SV), i + q = n -> q < fuel -> Frame H0 H -> RWork H0.size H m ws (adjE R) i n ->
  ∃ v ws' H', slow.loop3 (f21_l1 slow K (runQ wk tab slow K (d + 7))) fuel va m (i64 i) H = some (v, H') /\ Frame H0 H' /\ RWork H0.size H' v ws' (adjE R) n n
 | 0, i, fuel, H, m, ws, hiq, hf, hfr, hw => by
  obtain ⟨fuel, rfl⟩ : ∃ q, fuel = q + 1 := ⟨fuel - 1, by omega⟩
  have e : i = n := by omega
  subst e
  have hlt : ¬ i < i := Nat.lt_irrefl _
  have hlen : ∀ k, slow.len va k = k (i64 i) := fun k => by rw [(hva.fr hfr).len, hn]
  refine ⟨m, ws, H, ?_, hfr, hw⟩
  rw [z_loop3]
  simp only [f21_l1, hlen, n_lss, decide_eq_false hlt, z_cond, cond_false, z_rest hw.out.arr.good]
 | q + 1, i, fuel, H, m, ws, hiq, hf, hfr, hw => by
  obtain ⟨fuel, rfl⟩ : ∃ q, fuel = q + 1 := ⟨fuel - 1, by omega⟩
  obtain ⟨n, rfl⟩ : ∃ k, n = k + 1 := ⟨n - 1, by omega⟩
  have hlt : i < n + 1 := by omega
  have h16 := hg.rows
  have hlen : ∀ k, slow.len va k = k (i64 (n + 1)) := fun k => by rw [(hva.fr hfr).len, hn]
  obtain ⟨m', ws', H1, h1, f1, w1⟩ := radj_in K hK d hfr hva hg hs hn hlt hw hfr.size (slow.loop3 (f21_l1 slow K (runQ wk tab slow K (d + 7))) fuel) (n + 1) 0 K H (.slice nilSl) (by omega) (by omega) (Fr.refl _ _) (RRow.nil _ _)
  obtain ⟨v, ws'', H2, h2, g2⟩ := radj_out K hK d hva hg hs hn q (i + 1) fuel H1 m' ws' (by omega) (by omega) (Fr.trans hfr f1) w1
  refine ⟨v, ws'', H2, ?_, g2⟩
  rw [z_loop3]
  simp only [f21_l1, hlen, n_lss, decide_eq_true hlt, z_cond, cond_true]
  rw [show (SV.int .i64 0) = i64 0 from rfl, h1]
  exact h2
theorem radj_run (K d : Nat) (H : Heap) (v : SV) : runQ wk tab slow K (d + 8) 21 [v] H = f21 slow K (runQ wk tab slow K (d + 7)) v H := Eq.trans rfl rfl
theorem radj_ok (K : Nat) (hK : 3000000 < K) (d : Nat) (H : Heap) {lo0 : Nat} {va : SV} {R : List (List Int)} (hva : IsRRows lo0 H va R) (hg : Good R) (hs : sqE R = 0) :
  ∃ v ws H', runQ wk tab slow K (d + 8) 21 [va] H = some (v, H') /\ Frame H H' /\ RWork H.size H' v ws (adjE R) R.length R.length := by
 have h16 := hg.rows
 rw [radj_run]
 exact radj_out K hK d hva hg hs rfl R.length 0 K H (.slice nilSl) [] (by omega) (by omega) (Fr.refl _ _) ⟨Own.nil _ _, rfl, fun i w hw => by simp at hw, fun i j w w' r hw => by simp at hw⟩
def mulC (R : List (List Int)) (i j : Nat) : Mx := fun x y => if x < i \/ (x = i /\ y < j) then adjE R x y * detR R else adjE R x y
theorem rinv_in (K : Nat) (hK : 3000000 < K) (d : Nat) {H0 : Heap} {v bd sd : SV} {ws : List SV} {R : List (List Int)} (hg : Good R) (hs : sqE R = 0) {i : Nat} (hi : i < R.length) (k8 : SV -> SV -> SV -> Heap -> Rs) : ∀ (q j fuel : Nat) (H : Heap), j + q = R.length -> q < fuel -> Frame H0 H -> RWork H0.size H v ws (mulC R i j) R.length R.length -> IsRZ H (.agg [bd, sd]) (detR R) ->
  ∃ H', slow.loop4 (f22_l3 slow K (runQ wk tab slow K (d + 3)) k8) fuel (.box [bd, sd]) v (i64 i) (i64 j) H = k8 (.box [bd, sd]) v (i64 (i + 1)) H' /\ Frame H0 H' /\ RWork H0.size H' v ws (mulC R (i + 1) 0) R.length R.length /\ IsRZ H' (.agg [bd, sd]) (detR R)
 | 0, j, fuel, H, hjq, hf, hfr, hw, hd => by
  obtain ⟨fuel, rfl⟩ : ∃ q, fuel = q + 1 := ⟨fuel - 1, by omega⟩
  have h16 := hg.rows
  have hlt : ¬ j < R.length := by omega
  refine ⟨H, ?_, hfr, hw.congr fun x y hx hy => ?_, hd⟩
  ·rw [z_loop4]
   simp only [f22_l3, hw.size, n_lss, decide_eq_false hlt, z_cond, cond_false, w_inc (show i < 1000000 by omega)]
  ·unfold mulC
   by_cases h : x < i \/ (x = i /\ y < j)
   ·rw [if_pos h, if_pos (by omega)]
   ·rw [if_neg h, if_neg (by omega)]
 | q + 1, j, fuel, H, hjq, hf, hfr, hw, hd => by
  obtain ⟨fuel, rfl⟩ : ∃ q, fuel = q + 1 := ⟨fuel - 1, by omega⟩
  have hj : j < R.length := by omega
  have h16 := hg.rows
  obtain ⟨wi, hwi⟩ : ∃ w, ws[i]? = some w := ⟨_, List.getElem?_eq_getElem (by rw [hw.len]; exact hi)⟩
  obtain ⟨pi, pi1, pi2, pi3⟩ := Own.place hw.out hwi
  obtain ⟨x, y, l1, l2⟩ := (hw.row i wi hwi).load hj
  have e1 : mulC R i j i j = adjE R i j := by unfold mulC; rw [if_neg (by omega)]
  rw [e1] at l2
  have ba := rbig (adjE_small hs hi hj).2
  have bd' := rbig (detR_small2 hg hs)
  obtain ⟨p, H1, h1, f1, n1⟩ := rzmul_ok K hK d H l2 hd (by omega) (by omega)
  have n1' := n1
  obtain ⟨ps, rfl, _⟩ := n1
  have hw1 := hw.fr f1
  obtain ⟨H2, st, W, f2, _, hint⟩ := hw1.store hwi hj n1'
  obtain ⟨H3, h3, g3⟩ := rinv_in K hK d hg hs hi k8 q (j + 1) fuel H2 (by omega) (by omega) (Fr.trans (Frame.trans hfr f1) f2) (W.congr fun x y hx hy => by
   unfold updM mulC
   by_cases a : x = i /\ y = j
   ·obtain ⟨rfl, rfl⟩ := a
    rw [if_pos ⟨rfl, rfl⟩, if_pos (by omega)]
   ·rw [if_neg a]
    by_cases h : x < i \/ (x = i /\ y < j)
    ·rw [if_pos h, if_pos (by omega)]
    ·rw [if_neg h, if_neg (by omega)]) (hint _ _ (hd.fr f1))
  refine ⟨H3, ?_, g3⟩
  rw [z_loop4]
  simp only [f22_l3, hw.size, n_lss, decide_eq_true hj, z_cond, cond_true, pi1, pi2 H hw.out, l1, z_lload2, h1, z_call, st, pi3 H H1 _ hw.out f1, w_inc (show j < 1000000 by omega)]
  exact h3
theorem rinv_out (K : Nat) (hK : 3000000 < K) (d : Nat) {H0 : Heap} {v bd sd : SV} {ws : List SV} {R : List (List Int)} (hg : Good R) (hs : sqE R = 0) : ∀ (q i fuel : Nat) (H : Heap), i + q = R.length -> q < fuel -> Frame H0 H -> RWork H0.size H v ws (mulC R i 0) R.length R.length -> IsRZ H (.agg [bd, sd]) (detR R) ->
  ∃ H', slow.loop3 (f22_l1 slow K (runQ wk tab slow K (d + 3))) fuel (.box [bd, sd]) v (i64 i) H = some (v, H') /\ Frame H0 H' /\ RWork H0.size H' v ws (mulC R R.length 0) R.length R.length
 | 0, i, fuel, H, hiq, hf, hfr, hw, hd => by
  obtain ⟨fuel, rfl⟩ : ∃ q, fuel = q + 1 := ⟨fuel - 1, by omega⟩
  have e : i = R.length := by omega
  subst e
  have hlt : ¬ R.length < R.length := Nat.lt_irrefl _
  refine ⟨H, ?_, hfr, hw⟩
  rw [z_loop3]
  simp only [f22_l1, hw.size, n_lss, decide_eq_false hlt, z_cond, cond_false, z_rest hw.out.arr.good]
 | q + 1, i, fuel, H, hiq, hf, hfr, hw, hd => by
  obtain ⟨fuel, rfl⟩ : ∃ q, fuel = q + 1 := ⟨fuel - 1, by omega⟩
  have hi : i < R.length := by omega
  have h16 := hg.rows
  obtain ⟨H1, h1, f1, w1, d1⟩ := rinv_in K hK d hg hs hi (slow.loop3 (f22_l1 slow K (runQ wk tab slow K (d + 3))) fuel) R.length 0 K H (by omega) (by omega) hfr hw hd
  obtain ⟨H2, h2, g2⟩ := rinv_out K hK d hg hs q (i + 1) fuel H1 (by omega) (by omega) f1 w1 d1
  refine ⟨H2, ?_, g2⟩
  rw [z_loop3]
  simp only [f22_l1, hw.size, n_lss, decide_eq_true hi, z_cond, cond_true]
  rw [show (SV.int .i64 0) = i64 0 from rfl, h1]
  exact h2
theorem rinv_run (K d : Nat) (H : Heap) (v w : SV) : runQ wk tab slow K (d + 9) 22 [v, w] H = f22 slow K (runQ wk tab slow K (d + 8)) v w H := Eq.trans rfl rfl
theorem rinv_ok (K : Nat) (hK : 3000000 < K) (d : Nat) (H : Heap) {lo0 : Nat} {va vd : SV} {R : List (List Int)} (hva : IsRRows lo0 H va R) (hg : Good R) (hs : sqE R = 0) (hd : IsRZ H vd (detR R)) (hu : (detR R).natAbs = 1) :
  ∃ v H', runQ wk tab slow K (d + 9) 22 [va, vd] H = some (v, H') /\ Frame H H' /\ IsRRows H.size H' v (invR R) := by
 have h16 := hg.rows
 rw [rinv_run]
 obtain ⟨m, ws, H1, h1, f1, w1⟩ := radj_ok K hK d H hva hg hs
 have hd' := hd
 obtain ⟨s, rfl, _⟩ := hd
 obtain ⟨H2, h2, f2, w2⟩ := rinv_out K hK (d + 5) (H0 := H) (v := m) (ws := ws) hg hs R.length 0 K H1 (by omega) (by omega) f1 (w1.congr fun x y _ _ => by
  unfold mulC
  rw [if_neg (by omega)]) (hd'.fr f1)
 rw [show d + 5 + 3 = d + 8 from rfl] at h2
 have hE : invE R = 0 := by unfold invE; rw [if_neg (fun h => h hs), if_pos hu]
 refine ⟨m, H2, ?_, f2, ?_⟩
 ·simp only [f22, z_bbox, h1, z_call]
  exact h2
 ·unfold invR
  rw [if_pos hE]
  have := w2.congr (m' := fun i j => detR R * adjE R i j) fun x y hx hy => by
   unfold mulC
   rw [if_pos (by omega), Int.mul_comm]
  exact this.rrows
end Go.Sh.Of
