/- The program's Ldl: gram.square of fractions, the box of one, the loops. -/
import Derived.Test.YtfjgbobjpjkamaaLdlA
set_option linter.unusedVariables false
set_option linter.unusedSimpArgs false
namespace Go.Sh.Of
open Go Go.Sh
def Holds3 (H : Heap) (p : SV) (x y z : SV) : Prop := ∃ r row, p = .ptr (r, 0) /\ H.get r = some row /\ row.kind ≠ 0 /\ row.cells = [x, y, z]
theorem Holds3.fr {H H' : Heap} {p x y z : SV} (h : Holds3 H p x y z) (hf : Frame H H') : Holds3 H' p x y z := by
 obtain ⟨r, row, h1, h2, h3, h4⟩ := h
 exact ⟨r, row, h1, by rw [hf.rows r (Heap.get_lt h2)]; exact h2, h3, h4⟩
theorem Holds3.loadA {H : Heap} {p x y z : SV} (h : Holds3 H p x y z) (k : K1) : slow.load 3 true p H k = k (.agg [x, y, z]) := by
 obtain ⟨r, row, rfl, h2, h3, h4⟩ := h
 show (opR (.load 3 true) [.ptr (r, 0)] H).bind k = _
 have e : cut row.cells 0 3 = some [x, y, z] := by rw [h4]; rfl
 simp only [opR, Heap.read, h2, beq_ne h3, cond_false, e, shaped, Option.bind_some]
theorem z_alloc3 (H : Heap) (b : Bool) (s t : Sl) : ∃ H' H'', (∀ k, slow.alloc [.bool false, .slice nilSl, .slice nilSl] H k = k (.ptr (H.size, 0)) H') /\ (∀ k, slow.store 3 (.ptr (H.size, 0)) (.agg [.bool b, .slice s, .slice t]) H' k = k H'') /\ Frame H H'' /\ Holds3 H'' (.ptr (H.size, 0)) (.bool b) (.slice s) (.slice t) := by
 have e : (H.push (newRow 1 [.bool false, .slice nilSl, .slice nilSl])).get H.size = some (newRow 1 [.bool false, .slice nilSl, .slice nilSl]) := Heap.get_push_self _ _
 refine ⟨H.push (newRow 1 [.bool false, .slice nilSl, .slice nilSl]), (H.push (newRow 1 [.bool false, .slice nilSl, .slice nilSl])).set H.size ⟨2, 1, 1, [.bool b, .slice s, .slice t]⟩, fun k => rfl, fun k => ?_, ?_, ⟨H.size, _, rfl, Heap.get_set_self e _, by simp, rfl⟩⟩
 ·show (opE (.store 3) [.ptr (H.size, 0), .agg [.bool b, .slice s, .slice t]] (H.push (newRow 1 [.bool false, .slice nilSl, .slice nilSl]))).bind _ = _
  simp only [opE, SV.item, SV.cells, Heap.write, e]
  rfl
 ·exact Fr.trans (Fr.push (Nat.le_refl _) _) (Fr.set (Nat.le_refl _) _)
section
variable {k : K1}
theorem z_build30 (k : K1) : slow.build [.bool false, .slice nilSl, .slice nilSl] [] [] k = k (.agg [.bool false, .slice nilSl, .slice nilSl]) := rfl
end
def EntryQ3 (C : CallC) (g : Nat) (b caps : List SV) (H0 : Heap) (n : Nat) (E : Nat -> Nat -> Rat) : Prop :=
 ∀ i j H, i < n -> j < n -> Frame H0 H -> ∃ e, C g (b ++ ([i64 i, i64 j] ++ caps)) H = some (.agg e, H) /\ IsQ H (.agg e) (E i j)
theorem sqQ_in (C : CallC) (K : Nat) {g : Nat} {b caps : List SV} {H0 Hi : Heap} {n : Nat} (hn : n < 1000) {E : Nat -> Nat -> Rat} (hE : EntryQ3 C g b caps H0 n E) (h0i : Frame H0 Hi) {lo : Nat} {l : SV} {ws : List SV} {i : Nat} (hi : i < n) (hl : GWork 3 IsQ lo Hi l ws E i n) (hlo : lo <= Hi.size) (k8 : SV -> SV -> SV -> SV -> SV -> Heap -> Rs) {row : SV} : ∀ (m j fuel : Nat) (H : Heap) (f : Nat -> Rat), j + m = n -> m < fuel -> Frame Hi H -> GRow 3 IsQ Hi.size H row f n -> (∀ q, q < j -> f q = E i q) ->
  ∃ l' H', slow.loop9 (f20_l3 slow K C k8) fuel (i64 n) (.fn g b caps) l (i64 i) row (i64 n) (i64 i) (i64 n) (i64 j) H = k8 (i64 n) (.fn g b caps) l' (i64 n) (i64 (i + 1)) H' /\ Fr lo Hi H' /\ GWork 3 IsQ lo H' l' (ws ++ [row]) E (i + 1) n
 | 0, j, fuel, H, f, hjm, hf, hfr, ho, hd => by
  obtain ⟨fuel, rfl⟩ : ∃ m, fuel = m + 1 := ⟨fuel - 1, by omega⟩
  have hj : j = n := by omega
  subst hj
  obtain ⟨l', H2, ha, hW, hf2, _⟩ := hl.push pcellQ hlo hfr (ho.congr hd) (by omega)
  refine ⟨l', H2, ?_, hf2, hW⟩
  rw [z_loop9]
  have hlt : ¬ j < j := Nat.lt_irrefl j
  simp only [f20_l3, n_lss, decide_eq_false hlt, z_cond, cond_false, ha, w_inc (show i < 1000000 by omega)]
 | m + 1, j, fuel, H, f, hjm, hf, hfr, ho, hd => by
  obtain ⟨fuel, rfl⟩ : ∃ m, fuel = m + 1 := ⟨fuel - 1, by omega⟩
  have hlt : j < n := by omega
  obtain ⟨e, h1, hr⟩ := hE i j H hi hlt (Frame.trans h0i hfr)
  obtain ⟨H2, st, ho2, fr2, sz2, hro, _⟩ := ho.store pcellQ hlt hr
  obtain ⟨l', H3, h3, h4⟩ := sqQ_in C K hn hE h0i hi hl hlo k8 m (j + 1) fuel H2 _ (by omega) (by omega) (Fr.trans hfr fr2) ho2 (fun q hq => by
   unfold updF
   by_cases hqj : q = j
   ·rw [if_pos hqj, hqj]
   ·rw [if_neg hqj]
    exact hd q (by omega))
  refine ⟨l', H3, ?_, h4⟩
  rw [z_loop9]
  simp only [f20_l3, n_lss, decide_eq_true hlt, z_cond, cond_true, z_callv, h1, z_call, st, w_inc (show j < 1000000 by omega)]
  exact h3
theorem qrow_zero {lo : Nat} {H : Heap} {v : SV} {n : Nat} (h : OwnS 3 lo H v (List.replicate n [.bool false, .slice nilSl, .slice nilSl])) : GRow 3 IsQ lo H v (fun _ => 0) n :=
 ⟨_, h, by simp, fun e he => by
  rw [List.eq_of_mem_replicate he]
  exact pcellQ.cell (IsQ.zero H), fun t e he => by
  rw [List.eq_of_mem_replicate (List.mem_of_getElem? he)]
  exact IsQ.zero H⟩
theorem sqQ_out (C : CallC) (K : Nat) (hK : 100000 < K) {g : Nat} {b caps : List SV} {H0 : Heap} {n : Nat} (hn : n < 1000) {E : Nat -> Nat -> Rat} (hE : EntryQ3 C g b caps H0 n E) : ∀ (m i fuel : Nat) (H : Heap) (l : SV) (ws : List SV), i + m = n -> m < fuel -> Frame H0 H -> GWork 3 IsQ H0.size H l ws E i n ->
  ∃ l' ws' H', slow.loop5 (f20_l1 slow K C) fuel (i64 n) (.fn g b caps) l (i64 n) (i64 i) H = some (l', H') /\ Frame H0 H' /\ GWork 3 IsQ H0.size H' l' ws' E n n
 | 0, i, fuel, H, l, ws, him, hf, hfr, hw => by
  obtain ⟨fuel, rfl⟩ : ∃ m, fuel = m + 1 := ⟨fuel - 1, by omega⟩
  have hi : i = n := by omega
  subst hi
  refine ⟨l, ws, H, ?_, hfr, hw⟩
  rw [z_loop5]
  have hlt : ¬ i < i := Nat.lt_irrefl i
  simp only [f20_l1, n_lss, decide_eq_false hlt, z_cond, cond_false, z_rest hw.out.arr.good]
 | m + 1, i, fuel, H, l, ws, him, hf, hfr, hw => by
  obtain ⟨fuel, rfl⟩ : ∃ m, fuel = m + 1 := ⟨fuel - 1, by omega⟩
  have hlt : i < n := by omega
  obtain ⟨row, H1, h1, ho1, fr1, hin1, sz1⟩ := z_makeS (H := H) (lo := H.size) (Nat.le_refl _) 3 56 (by decide) [.bool false, .slice nilSl, .slice nilSl] rfl n (by omega) (roomy_small (by omega)) .i64 .i64
  obtain ⟨l', H2, h2, fr2, hW⟩ := sqQ_in C K hn hE hfr (Hi := H) hlt hw hfr.size (slow.loop5 (f20_l1 slow K C) fuel) (row := row) n 0 K H1 _ (by omega) (by omega) fr1 (qrow_zero ho1) (fun q hq => by omega)
  obtain ⟨l3, ws3, H3, h3, g3⟩ := sqQ_out C K hK hn hE m (i + 1) fuel H2 l' (ws ++ [row]) (by omega) (by omega) (Fr.trans hfr fr2) hW
  refine ⟨l3, ws3, H3, ?_, g3⟩
  rw [z_loop5]
  simp only [f20_l1, n_lss, decide_eq_true hlt, z_cond, cond_true, h1]
  rw [ho1.arr.len, List.length_replicate, show (SV.int .i64 0) = i64 0 from rfl, h2]
  exact h3
theorem sqQ_run (K d : Nat) (H : Heap) (v f : SV) : runQ wk tab slow K (d + 1) 20 [v, f] H = f20 slow K (runQ wk tab slow K d) v f H := Eq.trans rfl rfl
theorem sqQ_ok (K : Nat) (hK : 100000 < K) (d : Nat) {g : Nat} {b caps : List SV} {H0 : Heap} {n : Nat} (hn : n < 1000) {E : Nat -> Nat -> Rat} (hE : EntryQ3 (runQ wk tab slow K d) g b caps H0 n E) :
  ∃ l ws H', runQ wk tab slow K (d + 1) 20 [i64 n, .fn g b caps] H0 = some (l, H') /\ Frame H0 H' /\ GWork 3 IsQ H0.size H' l ws E n n := by
 rw [sqQ_run]
 exact sqQ_out _ K hK hn hE n 0 K H0 (.slice nilSl) [] (by omega) (by omega) (Fr.refl _ _) ⟨Own.nil _ _, rfl, fun i w hw => by simp at hw, fun i j w w' r hw => by simp at hw⟩
theorem unit_run (K d : Nat) (H : Heap) (u v p : SV) : runQ wk tab slow K (d + 1) 21 [u, v, p] H = f21 slow K (runQ wk tab slow K d) u v p H := Eq.trans rfl rfl
theorem unit_entry (K d : Nat) {H0 : Heap} {p : SV} {b s t : SV} (hp : Holds3 H0 p b s t) (hq : IsQ H0 (.agg [b, s, t]) 1) (n : Nat) : EntryQ3 (runQ wk tab slow K (d + 1)) 21 [] [p] H0 n (fun i j => if i = j then 1 else 0) := by
 intro i j H hi hj hf
 have hp' := hp.fr hf
 have hq' := hq.fr hf
 show ∃ e, runQ wk tab slow K (d + 1) 21 [i64 i, i64 j, p] H = some (.agg e, H) /\ IsQ H (.agg e) (if i = j then 1 else 0)
 rw [unit_run]
 by_cases h : i = j
 ·refine ⟨[b, s, t], ?_, by rw [if_pos h]; exact hq'⟩
  simp only [f21, n_eql, decide_eq_true h, z_cond, cond_true, hp'.loadA, z_bst3, z_resc3]
 ·refine ⟨[.bool false, .slice nilSl, .slice nilSl], ?_, by rw [if_neg h]; exact IsQ.zero H⟩
  simp only [f21, n_eql, decide_eq_false h, z_cond, cond_false, z_build30, z_bst3, z_resc3]
end Go.Sh.Of
