/- MatMakes: the rows that were handed in are spoilt. -/
import Derived.Test.YtnjdnndlhpdjiaaMakesB
set_option linter.unusedVariables false
set_option linter.unusedSimpArgs false
namespace Go.Sh.Of
open Go

theorem verEq_self (o : Option Nat) : verEq o o = true := by
  cases o with
  | none => rfl
  | some a => simp [verEq]
/-- A cell's place, what lies there, and that it has not changed. -/
theorem Arr.loadP {H : Heap} {v : SV} {cs : List SV} (h : Arr H v cs) {i : Nat} {x : SV} (hx : cs[i]? = some x) (kd : IntKind) :
    ∃ p, (∀ k, slow.idx 1 v (.int kd i) k = k p) ∧ (∀ k, slow.load 1 false p H k = k x) ∧ ∀ H' t, Frame H H' → slow.same p H H' t = t := by
  obtain ⟨s, rfl, h2, h3⟩ := h
  have hi : i < cs.length := (List.getElem?_eq_some_iff.1 hx).1
  rcases h3 with rfl | ⟨r, o, row, b1, b2, b3, b4⟩
  · simp at hi
  · have hc : 0 ≤ (i : Int) ∧ (i : Int) < s.len := ⟨by omega, by rw [h2]; omega⟩
    refine ⟨.ptr (r, o + (i : Int).toNat * 1), fun k => ?_, fun k => ?_, fun H' t f => ?_⟩
    · show (opP (.idx 1) [.slice s, .int kd i]).bind _ = _
      simp only [opP, if_pos hc, b1, Option.bind_some]
    · show (opR (.load 1 false) [.ptr (r, o + (i : Int).toNat * 1)] H).bind k = _
      simp only [opR, Heap.read, b2, beq_ne b3, cond_false, Int.toNat_natCast, Nat.mul_one, cut_one (b4 i x hx), shaped, Option.bind_some]
    · have e : H'.ver r = H.ver r := by unfold Heap.ver; rw [f.rows r (Heap.get_lt b2)]
      show (bif sameRow (.ptr (r, o + (i : Int).toNat * 1)) H H' then t else none) = t
      simp only [sameRow, rowOf, e, verEq_self, cond_true]
/-- The rows that are spoilt. -/
def Xr (ws us : List SV) (r : Nat) : Prop := (∃ (q : Nat) (w : SV), ws[q]? = some w ∧ inRow w r) ∨ ∃ (q : Nat) (w : SV), us[q]? = some w ∧ inRow w r
/-- Spoilt up to a place. -/
structure Sp (lo : Nat) (Hs H : Heap) (ws us : List SV) (rows : List (List Int)) (i j : Nat) : Prop where
  size : Hs.size ≤ H.size
  keep : ∀ r, ¬ Xr ws us r → r < Hs.size → H.get r = Hs.get r
  ra : ∀ (q : Nat) w zs, ws[q]? = some w → rows[q]? = some zs → ∃ cs, Own lo H w cs ∧ cs.length = zs.length ∧ ∀ (t : Nat) z, (i < q ∨ i = q ∧ j ≤ t) → zs[t]? = some z → cs[t]? = some (.int .i64 z)
  rb : ∀ (q : Nat) w zs, us[q]? = some w → rows[q]? = some zs → ∃ els, OwnS 2 lo H w els ∧ els.length = zs.length
theorem Xr.ge {lo : Nat} {Hs : Heap} {a b : SV} {ws us : List SV} {rows : List (List Int)} {F : Nat → Nat} (hm : Mk lo Hs a b ws us rows rows.length F) {r : Nat} (hx : Xr ws us r) : lo ≤ r ∧ 2 ≤ F r ∧ r < Hs.size ∧ ∀ row, Hs.get r = some row → ∀ c ∈ row.cells, ∀ n, c ≠ .int .u32 n := by
  rcases hx with ⟨q, w, hw, hr⟩ | ⟨q, w, hw, hr⟩
  · obtain ⟨zs, hz⟩ : ∃ z, rows[q]? = some z := ⟨_, List.getElem?_eq_getElem (by have := hm.la; have := (List.getElem?_eq_some_iff.1 hw).1; omega)⟩
    have ho := hm.ra q w zs hw hz
    refine ⟨Own.geA ho hr, by have := hm.ga q w hw r hr; omega, Own.lt ho hr, fun row hg c hc n e => ?_⟩
    rw [Own.cells ho hr hg] at hc
    obtain ⟨z, _, rfl⟩ := List.mem_map.1 hc
    cases e
  · obtain ⟨zs, hz⟩ : ∃ z, rows[q]? = some z := ⟨_, List.getElem?_eq_getElem (by have := hm.lb; have := (List.getElem?_eq_some_iff.1 hw).1; omega)⟩
    obtain ⟨els, ho, _, hcell, _⟩ := hm.rb q w zs hw hz
    refine ⟨OwnS.geA ho hr, by have := hm.gb q w hw r hr; omega, OwnS.lt ho hr, fun row hg c hc n => ?_⟩
    rw [OwnS.cells ho hr hg] at hc
    exact zCells_flat hcell c hc _ _
theorem Sp.fr {lo : Nat} {Hs H : Heap} {a b : SV} {ws us : List SV} {rows : List (List Int)} {F : Nat → Nat} {i j : Nat} (hm : Mk lo Hs a b ws us rows rows.length F) (hs : Sp lo Hs H ws us rows i j) (hlo : lo ≤ Hs.size) : Fr lo Hs H :=
  ⟨hs.size, fun r hr => hs.keep r (fun hx => by have := (Xr.ge hm hx).1; omega) (by omega)⟩
theorem sp_in (K : Nat) (hK : 100000 < K) (d : Nat) {H0 Hs : Heap} {v n a b : SV} {ws us : List SV} {rows : List (List Int)} {F : Nat → Nat} (hv : IsInts2 H0 v rows) (h0s : Frame H0 Hs) (hm : Mk H0.size Hs a b ws us rows rows.length F) {i : Nat} {zs : List Int} (hz : rows[i]? = some zs) (hzl : zs.length ≤ 100) (hi : i < 100000) (y97 y98 y99 y100 y101 y102 y104 : SV) (k88 : SV → SV → SV → SV → SV → SV → SV → SV → SV → SV → SV → SV → Heap → Rs) : ∀ (m j fuel : Nat) (H : Heap), j + m = zs.length → m < fuel → Sp H0.size Hs H ws us rows i j →
    ∃ H', slow.loop15 (f3_l14 slow K (runQ wk tab slow K (d + 3)) k88) fuel v n a b y97 y98 y99 y100 y101 y102 (i64 i) y104 (i64 i) (i64 zs.length) (i64 j) H = k88 v n a b y97 y98 y99 y100 y101 y102 y104 (i64 (i + 1)) H' ∧ Sp H0.size Hs H' ws us rows (i + 1) 0
  | 0, j, fuel, H, hjm, hf, hs => by
    obtain ⟨fuel, rfl⟩ : ∃ m, fuel = m + 1 := ⟨fuel - 1, by omega⟩
    have hlt : ¬ j < zs.length := by omega
    refine ⟨H, ?_, hs.size, hs.keep, fun q w zs' hw hz' => ?_, hs.rb⟩
    · rw [z_loop15]
      simp only [f3_l14, n_lss, decide_eq_false hlt, z_cond, cond_false]
      rw [show (SV.int .i64 1) = i64 1 from rfl, n_addi _ (by omega)]
    · obtain ⟨cs, h1, h2, h3⟩ := hs.ra q w zs' hw hz'
      exact ⟨cs, h1, h2, fun t z ht => h3 t z (by omega)⟩
  | m + 1, j, fuel, H, hjm, hf, hs => by
    obtain ⟨fuel, rfl⟩ : ∃ m, fuel = m + 1 := ⟨fuel - 1, by omega⟩
    have hlt : j < zs.length := by omega
    have hil : i < rows.length := (List.getElem?_eq_some_iff.1 hz).1
    obtain ⟨z, hz1⟩ : ∃ z, zs[j]? = some z := ⟨_, List.getElem?_eq_getElem hlt⟩
    obtain ⟨w, hw⟩ : ∃ w, ws[i]? = some w := ⟨_, List.getElem?_eq_getElem (by have := hm.la; omega)⟩
    obtain ⟨u, hu⟩ : ∃ u, us[i]? = some u := ⟨_, List.getElem?_eq_getElem (by have := hm.lb; omega)⟩
    obtain ⟨cs, ow, hcl, hcs⟩ := hs.ra i w zs hw hz
    obtain ⟨els, ou, hel⟩ := hs.rb i u zs hu hz
    have hcj := hcs j z (.inr ⟨rfl, Nat.le_refl _⟩) hz1
    have hnot : ∀ r, F r < 2 → ¬ Xr ws us r := fun r hr hx => by have := (Xr.ge hm hx).2.1; omega
    have aH : Arr H a ws := Arr.keepV (X := fun r => Xr ws us r) hm.oa.arr (fun r hr => hnot r (by rw [hm.fa r hr]; omega)) fun r hx hr => hs.keep r hx hr
    have bH : Arr H b us := Arr.keepV (X := fun r => Xr ws us r) hm.ob.arr (fun r hr => hnot r (by rw [hm.fb r hr]; omega)) fun r hx hr => hs.keep r hx hr
    have f0H : Frame H0 H := Fr.trans h0s (hs.fr hm h0s.size)
    obtain ⟨x, hx, hxa⟩ := (hv.fr f0H).load (i := i) (cs := intsL .i64 zs) (by simp [hz])
    obtain ⟨pa, ha1, ha2, ha3⟩ := Arr.loadP aH hw .i64
    obtain ⟨pb, hb1, hb2, hb3⟩ := Arr.loadP bH hu .i64
    obtain ⟨q, H1, h1, f1, hq⟩ := zof_ok K (by omega) d H (z := 78) (by omega) (by omega)
    obtain ⟨sl, rfl, _⟩ := hq
    obtain ⟨H2, st2, ow2, f2, sz2, ro2⟩ := (ow.fr f1).store (i := j) (by omega) (x := .int .i64 77) rfl .i64
    have wu : ∀ r, inRow w r → ¬ inRow u r := fun r h h' => by have := hm.ga i w hw r h; have := hm.gb i u hu r h'; omega
    have ou2 : OwnS 2 H0.size H2 u els := OwnS.of_rows (OwnS.fr ou f1) fun r hr => ro2 r fun h => wu r h hr
    obtain ⟨H3, st3, ou3, f3, sz3, ro3⟩ := ou2.store (i := j) (by omega) (e := [.bool (decide ((78 : Int) < 0)), sl]) rfl .i64
    have hs' : Sp H0.size Hs H3 ws us rows i (j + 1) := {
      size := by have := hs.size; have := f1.size; omega
      keep := fun r hx hr => by
        rw [ro3 r (fun h => hx (.inr ⟨i, u, hu, h⟩)), ro2 r (fun h => hx (.inl ⟨i, w, hw, h⟩)), f1.rows r (by have := hs.size; omega), hs.keep r hx hr]
      ra := fun q w' zs' hw' hz' => by
        by_cases hqi : q = i
        · subst hqi
          rw [hw] at hw'
          cases hw'
          rw [hz] at hz'
          cases hz'
          refine ⟨cs.set j (.int .i64 77), Own.of_rows ow2 fun r hr => ro3 r (wu r hr), by simpa using hcl, fun t z' ht hz2 => ?_⟩
          rw [List.getElem?_set_ne (by omega)]
          exact hcs t z' (by omega) hz2
        · obtain ⟨cs', o', l', c'⟩ := hs.ra q w' zs' hw' hz'
          refine ⟨cs', Own.of_rows (o'.fr f1) fun r hr => ?_, l', fun t z' ht => c' t z' (by omega)⟩
          have := hm.ga q w' hw' r hr
          rw [ro3 r (fun h => by have := hm.gb i u hu r h; omega), ro2 r (fun h => by have := hm.ga i w hw r h; omega)]
      rb := fun q u' zs' hu' hz' => by
        by_cases hqi : q = i
        · subst hqi
          rw [hu] at hu'
          cases hu'
          rw [hz] at hz'
          cases hz'
          exact ⟨_, ou3, by simpa using hel⟩
        · obtain ⟨els', o', l'⟩ := hs.rb q u' zs' hu' hz'
          refine ⟨els', OwnS.of_rows (OwnS.fr o' f1) fun r hr => ?_, l'⟩
          have := hm.gb q u' hu' r hr
          rw [ro3 r (fun h => by have := hm.gb i u hu r h; omega), ro2 r (fun h => by have := hm.ga i w hw r h; omega)] }
    obtain ⟨H4, h4, hs4⟩ := sp_in K hK d hv h0s hm hz hzl hi y97 y98 y99 y100 y101 y102 y104 k88 m (j + 1) fuel H3 (by omega) (by omega) hs'
    refine ⟨H4, ?_, hs4⟩
    rw [z_loop15]
    have hne : (z != z) = false := bne_self_eq_false z
    simp only [f3_l14, n_lss, decide_eq_true hlt, z_cond, cond_true, ha1, ha2, ow.arr.load hcj, hx, hxa.load (ints_get hz1), z_neq, hne, cond_false, hb1, hb2, h1, z_call, st2, st3, ha3 H1 _ f1, hb3 H1 _ f1]
    rw [show (SV.int .i64 1) = i64 1 from rfl, n_addi _ (by omega)]
    exact h4
theorem sp_out (K : Nat) (hK : 100000 < K) (d : Nat) {H0 Hs : Heap} {v n a b : SV} {ws us : List SV} {rows : List (List Int)} {F : Nat → Nat} (hv : IsInts2 H0 v rows) (h0s : Frame H0 Hs) (hm : Mk H0.size Hs a b ws us rows rows.length F) (hok : ∀ r ∈ rows, r.length ≤ 100) (hrl : rows.length ≤ 100) (y79 y80 y81 y82 y83 y84 : SV)
    (hend : ∀ H fuel, Sp H0.size Hs H ws us rows rows.length 0 → ∃ H', slow.loop12 (f3_l12 slow K (runQ wk tab slow K (d + 3))) (fuel + 1) v n a b y79 y80 y81 y82 y83 y84 (i64 rows.length) (i64 rows.length) H = some (.bool true, H')) : ∀ (m i fuel : Nat) (H : Heap), i + m = rows.length → m < fuel → Sp H0.size Hs H ws us rows i 0 →
    ∃ H', slow.loop12 (f3_l12 slow K (runQ wk tab slow K (d + 3))) fuel v n a b y79 y80 y81 y82 y83 y84 (i64 rows.length) (i64 i) H = some (.bool true, H')
  | 0, i, fuel, H, him, hf, hs => by
    obtain ⟨fuel, rfl⟩ : ∃ m, fuel = m + 1 := ⟨fuel - 1, by omega⟩
    have hi : i = rows.length := by omega
    subst hi
    exact hend H fuel hs
  | m + 1, i, fuel, H, him, hf, hs => by
    obtain ⟨fuel, rfl⟩ : ∃ m, fuel = m + 1 := ⟨fuel - 1, by omega⟩
    have hlt : i < rows.length := by omega
    obtain ⟨zs, hz⟩ : ∃ zs, rows[i]? = some zs := ⟨_, List.getElem?_eq_getElem hlt⟩
    have hzl := hok zs (List.mem_of_getElem? hz)
    obtain ⟨w, hw⟩ : ∃ w, ws[i]? = some w := ⟨_, List.getElem?_eq_getElem (by have := hm.la; omega)⟩
    obtain ⟨cs, ow, hcl, hcs⟩ := hs.ra i w zs hw hz
    have hnot : ∀ r, F r < 2 → ¬ Xr ws us r := fun r hr hx => by have := (Xr.ge hm hx).2.1; omega
    have aH : Arr H a ws := Arr.keepV (X := fun r => Xr ws us r) hm.oa.arr (fun r hr => hnot r (by rw [hm.fa r hr]; omega)) fun r hx hr => hs.keep r hx hr
    have hwl : ∀ k, slow.len w k = k (i64 zs.length) := fun k => by rw [ow.arr.len, hcl]
    obtain ⟨H1, h1, hs1⟩ := sp_in K hK d hv h0s hm (n := n) hz hzl (by omega) y79 y80 y81 y82 y83 y84 (i64 rows.length) (slow.loop12 (f3_l12 slow K (runQ wk tab slow K (d + 3))) fuel) zs.length 0 K H (by omega) (by omega) hs
    obtain ⟨H2, h2⟩ := sp_out K hK d hv h0s hm hok hrl y79 y80 y81 y82 y83 y84 hend m (i + 1) fuel H1 (by omega) (by omega) hs1
    refine ⟨H2, ?_⟩
    rw [z_loop12]
    simp only [f3_l12, n_lss, decide_eq_true hlt, z_cond, cond_true, aH.load hw, hwl]
    rw [show (SV.int .i64 0) = i64 0 from rfl, h1]
    exact h2
end Go.Sh.Of
