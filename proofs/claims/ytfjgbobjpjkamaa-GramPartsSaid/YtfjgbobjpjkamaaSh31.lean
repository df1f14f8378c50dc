/- Contracts: slices of structs, boxes, closures. -/
import Derived.Test.YtfjgbobjpjkamaaSh30
set_option linter.unusedVariables false
set_option linter.unusedSimpArgs false
namespace Go.Sh
open Go
def ArrS (n : Nat) (H : Heap) (v : SV) (els : List (List SV)) : Prop :=
 ∃ s, v = .slice s /\ s.len = els.length /\ (∀ e ∈ els, e.length = n) /\ (els = [] \/ ∃ r o row, s.base = some (r, o) /\ H.get r = some row /\ row.kind ≠ 0 /\ ∀ i e, els[i]? = some e -> ∀ j x, e[j]? = some x -> row.cells[o + i * n + j]? = some x)
theorem ArrS.fr {n : Nat} {H H' : Heap} {v : SV} {els : List (List SV)} (h : ArrS n H v els) (hf : Frame H H') : ArrS n H' v els := by
 obtain ⟨s, h1, h2, h0, h3⟩ := h
 refine ⟨s, h1, h2, h0, ?_⟩
 rcases h3 with h3 | ⟨r, o, row, b1, b2, b3, b4⟩
 ·exact .inl h3
 ·exact .inr ⟨r, o, row, b1, by rw [hf.rows r (Heap.get_lt b2)]; exact b2, b3, b4⟩
theorem ArrS.len {n : Nat} {H : Heap} {v : SV} {els : List (List SV)} (h : ArrS n H v els) (k : K1) : slow.len v k = k (i64 els.length) := by
 obtain ⟨s, rfl, h2, _⟩ := h
 rw [z_len, h2]
theorem ArrS.flat {n : Nat} {H : Heap} {v : SV} {els : List (List SV)} (h : ArrS n H v els) : v.flat = true := by
 obtain ⟨s, rfl, _⟩ := h; rfl
theorem cut_n {cs e : List SV} {i : Nat} (hne : e ≠ []) (h : ∀ j x, e[j]? = some x -> cs[i + j]? = some x) : cut cs i e.length = some e := by
 have hpos := List.length_pos_iff.2 hne
 have hlast := h (e.length - 1) _ (List.getElem?_eq_getElem (by omega))
 have hlt := (List.getElem?_eq_some_iff.1 hlast).1
 have hle : Nat.ble (i + e.length) cs.length = true := Nat.ble_eq_true_of_le (by omega)
 simp only [cut, hle, cond_true]
 congr 1
 apply List.ext_getElem?
 intro j
 rw [List.getElem?_take]
 split
 ·rename_i hj
  rw [List.getElem?_drop, List.getElem?_eq_getElem hj]
  exact h j _ (List.getElem?_eq_getElem hj)
 ·rw [List.getElem?_eq_none (by omega)]
theorem ArrS.load {n : Nat} (hn : 0 < n) {H : Heap} {v : SV} {els : List (List SV)} (h : ArrS n H v els) {i : Nat} {e : List SV} (he : els[i]? = some e) (kd : IntKind) (k : K1) :
  slow.idx n v (.int kd i) (fun p => slow.load n true p H k) = k (.agg e) := by
 obtain ⟨s, rfl, h2, h0, h3⟩ := h
 have hi : i < els.length := (List.getElem?_eq_some_iff.1 he).1
 have hel := h0 e (List.mem_of_getElem? he)
 have hne : e ≠ [] := fun e0 => by rw [e0] at hel; simp at hel; omega
 rcases h3 with rfl | ⟨r, o, row, b1, b2, b3, b4⟩
 ·simp at hi
 ·have hc : 0 <= (i : Int) /\ (i : Int) < s.len := ⟨by omega, by rw [h2]; omega⟩
  show (opP (.idx n) [.slice s, .int kd i]).bind _ = _
  simp only [opP, if_pos hc, b1, Option.bind_some]
  show (opR (.load n true) [.ptr (r, o + (i : Int).toNat * n)] H).bind k = _
  have hcut : cut row.cells (o + i * n) n = some e := by
   have := cut_n (cs := row.cells) (i := o + i * n) hne (b4 i e he)
   rwa [hel] at this
  simp only [opR, Heap.read, b2, beq_ne b3, cond_false, Int.toNat_natCast, hcut, shaped, Option.bind_some]
def OwnS (n lo : Nat) (H : Heap) (v : SV) (els : List (List SV)) : Prop :=
 (∀ e ∈ els, e.length = n) /\ ∃ base, v = .slice ⟨base, els.length, none, 0⟩ /\ ((base = none /\ els = []) \/ ∃ r ver, base = some (r, 0) /\ lo <= r /\ H.get r = some ⟨2, n, ver, els.flatten⟩)
theorem flatten_get {n : Nat} : ∀ {els : List (List SV)}, (∀ e ∈ els, e.length = n) -> ∀ {i : Nat} {e : List SV}, els[i]? = some e -> ∀ {j : Nat} {x : SV}, e[j]? = some x -> els.flatten[i * n + j]? = some x
 | [], _, i, e, h, _, _, _ => by simp at h
 | f :: els, hn, 0, e, h, j, x, hx => by
  simp at h; subst h
  have hj := (List.getElem?_eq_some_iff.1 hx).1
  simp [List.getElem?_append_left hj, hx]
 | f :: els, hn, i + 1, e, h, j, x, hx => by
  simp only [List.getElem?_cons_succ] at h
  have hf := hn f (by simp)
  have ih := flatten_get (fun e he => hn e (by simp [he])) h hx
  rw [List.flatten_cons, Nat.succ_mul, List.getElem?_append_right (by omega), hf, show i * n + n + j - n = i * n + j by omega]
  exact ih
theorem flatten_len {n : Nat} : ∀ {els : List (List SV)}, (∀ e ∈ els, e.length = n) -> els.flatten.length = els.length * n
 | [], _ => by simp
 | f :: els, hn => by
  rw [List.flatten_cons, List.length_append, hn f (by simp), flatten_len fun e he => hn e (by simp [he]), List.length_cons, Nat.succ_mul]; omega
theorem OwnS.arr {n lo : Nat} {H : Heap} {v : SV} {els : List (List SV)} (h : OwnS n lo H v els) : ArrS n H v els := by
 obtain ⟨hn, base, rfl, h⟩ := h
 refine ⟨_, rfl, rfl, hn, ?_⟩
 rcases h with ⟨_, h⟩ | ⟨r, ver, rfl, _, h2⟩
 ·exact .inl h
 ·exact .inr ⟨r, 0, _, rfl, h2, by simp, fun i e he j x hx => by rw [Nat.zero_add]; exact flatten_get hn he hx⟩
theorem OwnS.fr {n lo : Nat} {H H' : Heap} {v : SV} {els : List (List SV)} (h : OwnS n lo H v els) (hf : Frame H H') : OwnS n lo H' v els := by
 obtain ⟨hn, base, h1, h⟩ := h
 refine ⟨hn, base, h1, ?_⟩
 rcases h with h | ⟨r, ver, e, h2, h3⟩
 ·exact .inl h
 ·exact .inr ⟨r, ver, e, h2, by rw [hf.rows r (Heap.get_lt h3)]; exact h3⟩
theorem OwnS.of_rows {n lo : Nat} {H H' : Heap} {v : SV} {els : List (List SV)} (h : OwnS n lo H v els) (hr : ∀ r, inRow v r -> H'.get r = H.get r) : OwnS n lo H' v els := by
 obtain ⟨hn, base, rfl, h⟩ := h
 refine ⟨hn, base, rfl, ?_⟩
 rcases h with h | ⟨r, ver, rfl, h2, h3⟩
 ·exact .inl h
 ·exact .inr ⟨r, ver, rfl, h2, by rw [hr r ⟨_, 0, rfl, rfl⟩]; exact h3⟩
theorem splice_mid (pre cs post ys : List SV) (h : ys.length = cs.length) : splice (pre ++ (cs ++ post)) pre.length ys = some (pre ++ (ys ++ post)) := by
 have hle : Nat.ble (pre.length + ys.length) (pre ++ (cs ++ post)).length = true := Nat.ble_eq_true_of_le (by simp; omega)
 simp only [splice, hle, cond_true]
 congr 1
 rw [List.take_left' rfl, List.drop_append, List.drop_of_length_le (by omega), Nat.add_sub_cancel_left, List.nil_append, List.drop_left' h.symm]
theorem splice_n {els : List (List SV)} {n i : Nat} {e : List SV} (hn : ∀ e ∈ els, e.length = n) (hi : i < els.length) (he : e.length = n) : splice els.flatten (i * n) e = some (els.set i e).flatten := by
 have ht : (els.take i).flatten.length = i * n := by
  rw [flatten_len fun e he => hn e (List.mem_of_mem_take he), List.length_take_of_le (by omega)]
 have hd : els.drop i = els[i] :: els.drop (i + 1) := List.drop_eq_getElem_cons hi
 have hei := hn els[i] (List.getElem_mem hi)
 have hsplit : els.flatten = (els.take i).flatten ++ (els[i] ++ (els.drop (i + 1)).flatten) := by
  conv => lhs; rw [<- List.take_append_drop i els, List.flatten_append, hd, List.flatten_cons]
 rw [hsplit, <- ht, splice_mid _ _ _ _ (by rw [he, hei]), List.set_eq_take_append_cons_drop, if_pos hi, List.flatten_append, List.flatten_cons]
theorem OwnS.store {n lo : Nat} {H : Heap} {v : SV} {els : List (List SV)} (h : OwnS n lo H v els) {i : Nat} (hi : i < els.length) {e : List SV} (he : e.length = n) (kd : IntKind) :
  ∃ H', (∀ k, slow.idx n v (.int kd i) (fun p => slow.store n p (.agg e) H k) = k H') /\ OwnS n lo H' v (els.set i e) /\ Fr lo H H' /\ H'.size = H.size /\ ∀ r, ¬ inRow v r -> H'.get r = H.get r := by
 obtain ⟨hn, base, rfl, h⟩ := h
 rcases h with ⟨_, rfl⟩ | ⟨r, ver, rfl, h1, h2⟩
 ·simp at hi
 refine ⟨H.set r ⟨2, n, ver + 1, (els.set i e).flatten⟩, fun k => ?_, ⟨fun f hf => ?_, some (r, 0), by simp, .inr ⟨r, ver + 1, rfl, h1, Heap.get_set_self h2 _⟩⟩, Fr.set h1 _, rfl, fun r' hr' => Heap.get_set_ne _ (fun e => hr' ⟨_, 0, rfl, by rw [e]⟩) _⟩
 ·have hc : 0 <= (i : Int) /\ (i : Int) < els.length := ⟨by omega, by omega⟩
  show (opP (.idx n) [.slice ⟨some (r, 0), els.length, none, 0⟩, .int kd i]).bind _ = _
  simp only [opP, if_pos hc, Option.bind_some]
  show (opE (.store n) [.ptr (r, 0 + (i : Int).toNat * n), .agg e] H).bind _ = _
  have hb1 : Nat.beq e.length n = true := by rw [he]; exact Nat.beq_refl n
  have hb2 : Nat.beq 2 2 = true := rfl
  simp only [opE, SV.item, SV.cells, hb1, Bool.true_and, cond_true, Heap.write, h2, hb2, Int.toNat_natCast, Nat.zero_add, splice_n hn hi he, Option.map_some, Option.bind_some]
 ·rcases List.mem_or_eq_of_mem_set hf with hf | rfl
  ·exact hn f hf
  ·exact he
theorem z_makeS {H : Heap} {lo : Nat} (hl : lo <= H.size) (n by_ : Nat) (hn : 0 < n) (z : List SV) (hz : z.length = n) (m : Nat) (hm : m <= 1099511627776) (hr : roomy m by_ = true) (kl kc : IntKind) :
  ∃ v H', (∀ k, slow.make n by_ z (.int kl m) (.int kc m) H k = k v H') /\ OwnS n lo H' v (List.replicate m z) /\ Frame H H' /\ inRow v H.size /\ H'.size = H.size + 1 := by
 refine ⟨.slice ⟨some (H.size, 0), m, none, 0⟩, H.push (newRow n (repeatL m z)), fun k => ?_, ⟨fun e he => by rw [List.eq_of_mem_replicate he]; exact hz, some (H.size, 0), by simp, .inr ⟨H.size, 0, rfl, hl, Heap.get_push_self _ _⟩⟩, Fr.push (Nat.le_refl _) _, ⟨_, 0, rfl, rfl⟩, rfl⟩
 show (opE (.make n by_ z) [.int kl m, .int kc m] H).bind _ = _
 have hc : 0 <= (m : Int) /\ (m : Int) <= m /\ (m : Int) <= 1099511627776 /\ roomy m by_ = true /\ 0 < n := ⟨by omega, by omega, by omega, hr, hn⟩
 simp only [opE, Int.toNat_natCast, if_pos hc, Option.bind_some]
theorem z_box {x : SV} (hx : x.flat = true) (H : Heap) (k : KH) : slow.box x H k = k (.ptr (H.size, 0)) (H.push (newRow 1 [x])) := by
 have hit : x.item = true := by cases x <;> simp_all [SV.item, SV.flat]
 have hce : x.cells = [x] := by cases x <;> simp_all [SV.cells, SV.flat]
 show (opE .box [x] H).bind _ = _
 simp only [opE, hit, hce, cond_true, Option.bind_some]
def Holds (H : Heap) (p : SV) (x : SV) : Prop := ∃ r row, p = .ptr (r, 0) /\ H.get r = some row /\ row.kind ≠ 0 /\ row.cells[0]? = some x
theorem Holds.fr {H H' : Heap} {p x : SV} (h : Holds H p x) (hf : Frame H H') : Holds H' p x := by
 obtain ⟨r, row, h1, h2, h3, h4⟩ := h
 exact ⟨r, row, h1, by rw [hf.rows r (Heap.get_lt h2)]; exact h2, h3, h4⟩
theorem Holds.load {H : Heap} {p x : SV} (h : Holds H p x) (k : K1) : slow.load 1 false p H k = k x := by
 obtain ⟨r, row, rfl, h2, h3, h4⟩ := h
 show (opR (.load 1 false) [.ptr (r, 0)] H).bind k = _
 simp only [opR, Heap.read, h2, beq_ne h3, cond_false, cut_one h4, shaped, Option.bind_some]
theorem z_boxH {x : SV} (hx : x.flat = true) (H : Heap) : ∃ p H', (∀ k, slow.box x H k = k p H') /\ Frame H H' /\ Holds H' p x /\ p.good = true :=
 ⟨.ptr (H.size, 0), H.push (newRow 1 [x]), fun k => z_box hx H k, Fr.push (Nat.le_refl _) _, ⟨H.size, _, rfl, Heap.get_push_self _ _, by simp [newRow], rfl⟩, rfl⟩
theorem z_mkfn0 (f : Nat) {x : SV} (hx : x.good = true) (k : K1) : slow.mkfn f 0 [x] k = k (.fn f [] [x]) := by
 show (opP (.mkfn f 0) [x]).bind k = _
 simp [opP, hx]
theorem z_callv (C : CallC) (f : Nat) (b c xs : List SV) (H : Heap) (k : KH) : slow.callv C (.fn f b c :: xs) H k = slow.call (C f (b ++ (xs ++ c)) H) k := rfl
end Go.Sh
