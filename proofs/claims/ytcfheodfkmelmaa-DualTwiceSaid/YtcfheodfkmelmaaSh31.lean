/- Contracts: slices of structs, boxes, closures. -/
import Derived.Test.YtcfheodfkmelmaaSh30
set_option linter.unusedVariables false
set_option linter.unusedSimpArgs false
namespace Go.Sh
open Go
def ArrS (n : Nat) (H : Heap) (v : SV) (els : List (List SV)) : Prop :=
 ∃ s, v = .slice s /\ s.len = els.length /\ (∀ e ∈ els, e.length = n) /\ (els = [] \/ ∃ r o row, s.base = some (r, o) /\ H.get r = some row /\ row.kind ≠ 0 /\ ∀ i e, els[i]? = some e -> ∀ j x, e[j]? = some x -> row.cells[o + i * n + j]? = some x)
theorem ArrS.fr {n : Nat} {H H' : Heap} {v : SV} {els : List (List SV)} (h : ArrS n H v els) (hf : Frame H H') : ArrS n H' v els := by
 obtain ⟨s, h1, h2, h0, h3⟩ := h
 refine ⟨s, h1, h2, h0, ?_⟩
 rcases h3 with h3 | ⟨r, o, row, b1, b2, b3, b4⟩
 ·exact .inl h3
 ·exact .inr ⟨r, o, row, b1, by rw [hf.rows r (Heap.get_lt b2)]; exact b2, b3, b4⟩
theorem ArrS.len {n : Nat} {H : Heap} {v : SV} {els : List (List SV)} (h : ArrS n H v els) (k : K1) : slow.len v k = k (i64 els.length) := by
 obtain ⟨s, rfl, h2, _⟩ := h
 rw [z_len, h2]
theorem ArrS.flat {n : Nat} {H : Heap} {v : SV} {els : List (List SV)} (h : ArrS n H v els) : v.flat = true := by
 obtain ⟨s, rfl, _⟩ := h; rfl
theorem cut_n {cs e : List SV} {i : Nat} (hne : e ≠ []) (h : ∀ j x, e[j]? = some x -> cs[i + j]? = some x) : cut cs i e.length = some e := by
 have hpos := List.length_pos_iff.2 hne
 have hlast := h (e.length - 1) _ (List.getElem?_eq_getElem (by omega))
 have hlt := (List.getElem?_eq_some_iff.1 hlast).1
 have hle : Nat.ble (i + e.length) cs.length = true := Nat.ble_eq_true_of_le (by omega)
 simp only [cut, hle, cond_true]
 congr 1
 apply List.ext_getElem?
 intro j
 rw [List.getElem?_take]
 split
 ·rename_i hj
  rw [List.getElem?_drop, List.getElem?_eq_getElem hj]
  exact h j _ (List.getElem?_eq_getElem hj)
 ·rw [List.getElem?_eq_none (by omega)]
theorem ArrS.load {n : Nat} (hn : 0 < n) {H : Heap} {v : SV} {els : List (List SV)} (h : ArrS n H v els) {i : Nat} {e : List SV} (he : els[i]? = some e) (kd : IntKind) (k : K1) :
  slow.idx n v (.int kd i) (fun p => slow.load n true p H k) = k (.agg e) := by
 obtain ⟨s, rfl, h2, h0, h3⟩ := h
 have hi : i < els.length := (List.getElem?_eq_some_iff.1 he).1
 have hel := h0 e (List.mem_of_getElem? he)
 have hne : e ≠ [] := fun e0 => by rw [e0] at hel; simp at hel; omega
 rcases h3 with rfl | ⟨r, o, row, b1, b2, b3, b4⟩
 ·simp at hi
 ·have hc : 0 <= (i : Int) /\ (i : Int) < s.len := ⟨by omega, by rw [h2]; omega⟩
  show (opP (.idx n) [.slice s, .int kd i]).bind _ = _
  simp only [opP, if_pos hc, b1, Option.bind_some]
  show (opR (.load n true) [.ptr (r, o + (i : Int).toNat * n)] H).bind k = _
  have hcut : cut row.cells (o + i * n) n = some e := by
   have := cut_n (cs := row.cells) (i := o + i * n) hne (b4 i e he)
   rwa [hel] at this
  simp only [opR, Heap.read, b2, beq_ne b3, cond_false, Int.toNat_natCast, hcut, shaped, Option.bind_some]
def OwnS (n lo : Nat) (H : Heap) (v : SV) (els : List (List SV)) : Prop :=
 (∀ e ∈ els, e.length = n) /\ ∃ base, v = .slice ⟨base, els.length, none, 0⟩ /\ ((base = none /\ els = []) \/ ∃ r ver, base = some (r, 0) /\ lo <= r /\ H.get r = some ⟨2, n, ver, els.flatten⟩)
theorem flatten_get {n : Nat} : ∀ {els : List (List SV)}, (∀ e ∈ els, e.length = n) -> ∀ {i : Nat} {e : List SV}, els[i]? = some e -> ∀ {j : Nat} {x : SV}, e[j]? = some x -> els.flatten[i * n + j]? = some x
 | [], _, i, e, h, _, _, _ => by simp at h
 | f :: els, hn, 0, e, h, j, x, hx => by
  simp at h; subst h
  have hj := (List.getElem?_eq_some_iff.1 hx).1
  simp [List.getElem?_append_left hj, hx]
 | f :: els, hn, i + 1, e, h, j, x, hx => by
  simp only [List.getElem?_cons_succ] at h
  have hf := hn f (by simp)
  have ih := flatten_get (fun e he => hn e (by simp [he])) h hx
  rw [List.flatten_cons, Nat.succ_mul, List.getElem?_append_right (by omega), hf, show i * n + n + j - n = i * n + j by omega]
  exact ih
theorem flatten_len {n : Nat} : ∀ {els : List (List SV)}, (∀ e ∈ els, e.length = n) -> els.flatten.length = els.length * n
 | [], _ => by simp
 | f :: els, hn => by
  rw [List.flatten_cons, List.length_append, hn f (by simp), flatten_len fun e he => hn e (by simp [he]), List.length_cons, Nat.succ_mul]; omega
theorem OwnS.arr {n lo : Nat} {H : Heap} {v : SV} {els : List (List SV)} (h : OwnS n lo H v els) : ArrS n H v els := by
 obtain ⟨hn, base, rfl, h⟩ := h
 refine ⟨_, rfl, rfl, hn, ?_⟩
 rcases h with ⟨_, h⟩ | ⟨r, ver, rfl, _, h2⟩
 ·exact .inl h
 ·exact .inr ⟨r, 0, _, rfl, h2, by simp, fun i e he j x hx => by rw [Nat.zero_add]; exact flatten_get hn he hx⟩
theorem OwnS.nil (n lo : Nat) (H : Heap) : OwnS n lo H (.slice nilSl) [] := ⟨fun e he => (by cases he), none, rfl, .inl ⟨rfl, rfl⟩⟩
theorem OwnS.fr {n lo : Nat} {H H' : Heap} {v : SV} {els : List (List SV)} (h : OwnS n lo H v els) (hf : Frame H H') : OwnS n lo H' v els := by
 obtain ⟨hn, base, h1, h⟩ := h
 refine ⟨hn, base, h1, ?_⟩
 rcases h with h | ⟨r, ver, e, h2, h3⟩
 ·exact .inl h
 ·exact .inr ⟨r, ver, e, h2, by rw [hf.rows r (Heap.get_lt h3)]; exact h3⟩
theorem OwnS.of_rows {n lo : Nat} {H H' : Heap} {v : SV} {els : List (List SV)} (h : OwnS n lo H v els) (hr : ∀ r, inRow v r -> H'.get r = H.get r) : OwnS n lo H' v els := by
 obtain ⟨hn, base, rfl, h⟩ := h
 refine ⟨hn, base, rfl, ?_⟩
 rcases h with h | ⟨r, ver, rfl, h2, h3⟩
 ·exact .inl h
 ·exact .inr ⟨r, ver, rfl, h2, by rw [hr r ⟨_, 0, rfl, rfl⟩]; exact h3⟩
theorem splice_mid (pre cs post ys : List SV) (h : ys.length = cs.length) : splice (pre ++ (cs ++ post)) pre.length ys = some (pre ++ (ys ++ post)) := by
 have hle : Nat.ble (pre.length + ys.length) (pre ++ (cs ++ post)).length = true := Nat.ble_eq_true_of_le (by simp; omega)
 simp only [splice, hle, cond_true]
 congr 1
 rw [List.take_left' rfl, List.drop_append, List.drop_of_length_le (by omega), Nat.add_sub_cancel_left, List.nil_append, List.drop_left' h.symm]
theorem splice_n {els : List (List SV)} {n i : Nat} {e : List SV} (hn : ∀ e ∈ els, e.length = n) (hi : i < els.length) (he : e.length = n) : splice els.flatten (i * n) e = some (els.set i e).flatten := by
 have ht : (els.take i).flatten.length = i * n := by
  rw [flatten_len fun e he => hn e (List.mem_of_mem_take he), List.length_take_of_le (by omega)]
 have hd : els.drop i = els[i] :: els.drop (i + 1) := List.drop_eq_getElem_cons hi
 have hei := hn els[i] (List.getElem_mem hi)
 have hsplit : els.flatten = (els.take i).flatten ++ (els[i] ++ (els.drop (i + 1)).flatten) := by
  conv => lhs; rw [<- List.take_append_drop i els, List.flatten_append, hd, List.flatten_cons]
 rw [hsplit, <- ht, splice_mid _ _ _ _ (by rw [he, hei]), List.set_eq_take_append_cons_drop, if_pos hi, List.flatten_append, List.flatten_cons]
theorem OwnS.store {n lo : Nat} {H : Heap} {v : SV} {els : List (List SV)} (h : OwnS n lo H v els) {i : Nat} (hi : i < els.length) {e : List SV} (he : e.length = n) (kd : IntKind) :
  ∃ H', (∀ k, slow.idx n v (.int kd i) (fun p => slow.store n p (.agg e) H k) = k H') /\ OwnS n lo H' v (els.set i e) /\ Fr lo H H' /\ H'.size = H.size /\ ∀ r, ¬ inRow v r -> H'.get r = H.get r := by
 obtain ⟨hn, base, rfl, h⟩ := h
 rcases h with ⟨_, rfl⟩ | ⟨r, ver, rfl, h1, h2⟩
 ·simp at hi
 refine ⟨H.set r ⟨2, n, ver + 1, (els.set i e).flatten⟩, fun k => ?_, ⟨fun f hf => ?_, some (r, 0), by simp, .inr ⟨r, ver + 1, rfl, h1, Heap.get_set_self h2 _⟩⟩, Fr.set h1 _, rfl, fun r' hr' => Heap.get_set_ne _ (fun e => hr' ⟨_, 0, rfl, by rw [e]⟩) _⟩
 ·have hc : 0 <= (i : Int) /\ (i : Int) < els.length := ⟨by omega, by omega⟩
  show (opP (.idx n) [.slice ⟨some (r, 0), els.length, none, 0⟩, .int kd i]).bind _ = _
  simp only [opP, if_pos hc, Option.bind_some]
  show (opE (.store n) [.ptr (r, 0 + (i : Int).toNat * n), .agg e] H).bind _ = _
  have hb1 : Nat.beq e.length n = true := by rw [he]; exact Nat.beq_refl n
  have hb2 : Nat.beq 2 2 = true := rfl
  simp only [opE, SV.item, SV.cells, hb1, Bool.true_and, cond_true, Heap.write, h2, hb2, Int.toNat_natCast, Nat.zero_add, splice_n hn hi he, Option.map_some, Option.bind_some]
 ·rcases List.mem_or_eq_of_mem_set hf with hf | rfl
  ·exact hn f hf
  ·exact he
theorem z_makeS {H : Heap} {lo : Nat} (hl : lo <= H.size) (n by_ : Nat) (hn : 0 < n) (z : List SV) (hz : z.length = n) (m : Nat) (hm : m <= 1099511627776) (hr : roomy m by_ = true) (kl kc : IntKind) :
  ∃ v H', (∀ k, slow.make n by_ z (.int kl m) (.int kc m) H k = k v H') /\ OwnS n lo H' v (List.replicate m z) /\ Frame H H' /\ inRow v H.size /\ H'.size = H.size + 1 := by
 refine ⟨.slice ⟨some (H.size, 0), m, none, 0⟩, H.push (newRow n (repeatL m z)), fun k => ?_, ⟨fun e he => by rw [List.eq_of_mem_replicate he]; exact hz, some (H.size, 0), by simp, .inr ⟨H.size, 0, rfl, hl, Heap.get_push_self _ _⟩⟩, Fr.push (Nat.le_refl _) _, ⟨_, 0, rfl, rfl⟩, rfl⟩
 show (opE (.make n by_ z) [.int kl m, .int kc m] H).bind _ = _
 have hc : 0 <= (m : Int) /\ (m : Int) <= m /\ (m : Int) <= 1099511627776 /\ roomy m by_ = true /\ 0 < n := ⟨by omega, by omega, by omega, hr, hn⟩
 simp only [opE, Int.toNat_natCast, if_pos hc, Option.bind_some]
theorem z_layS {H : Heap} {lo : Nat} (hl : lo <= H.size) (n : Nat) (hn : 0 < n) (hn' : n <= 1000) (z : List SV) (hz : z.length = n) {e : List SV} (he : e.length = n) :
  ∃ v H', (∀ k, slow.hbuild n z [(0, n)] [.agg e] H k = k v H') /\ OwnS n lo H' v [e] /\ Frame H H' /\ inRow v H.size /\ H'.size = H.size + 1 := by
 refine ⟨.slice ⟨some (H.size, 0), 1, none, 0⟩, H.push (newRow n e), fun k => ?_, ⟨fun f hf => by rw [List.mem_singleton.1 hf]; exact he, some (H.size, 0), rfl, .inr ⟨H.size, 0, rfl, hl, by rw [Heap.get_push_self]; simp [newRow]⟩⟩, Fr.push (Nat.le_refl _) _, ⟨_, 0, rfl, rfl⟩, rfl⟩
 show (opE (.build n z [(0, n)]) [.agg e] H).bind _ = _
 have h1 : Nat.beq ([(0, n)] : List (Nat × Nat)).length ([SV.agg e] : List SV).length = true := rfl
 have h2 : Nat.ble 1 n = true := Nat.ble_eq_true_of_le hn
 have h3 : Nat.ble z.length 1000000 = true := Nat.ble_eq_true_of_le (by omega)
 have h4 : Nat.beq e.length n = true := by rw [he]; exact Nat.beq_refl n
 have h5 : splice z 0 e = some e := by
  have := splice_mid [] z [] e (by omega)
  simpa using this
 have h6 : z.length / n = 1 := by rw [hz]; exact Nat.div_self hn
 simp only [opE, h1, h2, h3, Bool.true_and, cond_true, List.zip_cons_cons, List.zip_nil_right, List.map_cons, List.map_nil, fillS, SV.item, SV.cells, h4, h5, Option.map_some, Option.bind_some, h6]
theorem ArrS.elems {n : Nat} (hn : 0 < n) {H : Heap} {v : SV} {els : List (List SV)} (h : ArrS n H v els) : ∃ s, v = .slice s /\ s.len = els.length /\ H.elems n s = some els.flatten := by
 obtain ⟨s, rfl, h2, h0, h3⟩ := h
 refine ⟨s, rfl, h2, ?_⟩
 unfold Heap.elems
 rcases h3 with rfl | ⟨r, o, row, b1, b2, b3, b4⟩
 ·rw [h2]; rfl
 ·cases hb : Nat.beq s.len 0 with
  | true =>
   have := Nat.eq_of_beq_eq_true hb
   rw [h2] at this
   have : els = [] := List.eq_nil_of_length_eq_zero this
   subst this; rfl
  | false =>
   have hne : els ≠ [] := fun e => by rw [h2, e] at hb; cases hb
   have hfl := flatten_len h0
   have hpos : 0 < els.length * n := Nat.mul_pos (List.length_pos_iff.2 hne) hn
   have key : ∀ q x, els.flatten[q]? = some x -> row.cells[o + q]? = some x := fun q x hx => by
    have hq : q < els.length * n := by rw [<- hfl]; exact (List.getElem?_eq_some_iff.1 hx).1
    have hdm := Nat.div_add_mod q n
    have hqi : q / n < els.length := by rw [Nat.div_lt_iff_lt_mul hn]; exact hq
    have he : els[q / n]? = some els[q / n] := List.getElem?_eq_getElem hqi
    have hel := h0 _ (List.getElem_mem hqi)
    have hmod := Nat.mod_lt q hn
    have hx2 : els[q / n][q % n]? = some els[q / n][q % n] := List.getElem?_eq_getElem (by omega)
    have h6 := flatten_get h0 he hx2
    have e1 : q / n * n + q % n = q := by rw [Nat.mul_comm]; exact hdm
    rw [e1, hx] at h6
    have := b4 _ _ he _ _ hx2
    rw [show o + q / n * n + q % n = o + q by omega] at this
    rw [this, h6]
   have hcut := cut_n (cs := row.cells) (i := o) (e := els.flatten) (fun e => by rw [e] at hfl; simp at hfl; omega) key
   simp only [cond_false, b1, Heap.read, b2, beq_ne b3]
   rw [h2, <- hfl]
   exact hcut
theorem OwnS.append {n lo : Nat} (hn : 0 < n) {H : Heap} {v w : SV} {els ys : List (List SV)} (h : OwnS n lo H v els) (hl : lo <= H.size) (hw : ArrS n H w ys) {by_ : Nat} (hr : roomy (els.length + ys.length) by_ = true) :
  ∃ v' H', (∀ k, slow.append n by_ v w H k = k v' H') /\ OwnS n lo H' v' (els ++ ys) /\ Fr lo H H' /\ (∀ r, ¬ inRow v r -> r < H.size -> H'.get r = H.get r) /\ (ys ≠ [] -> inRow v' H.size) := by
 obtain ⟨s, rfl, h2, h3⟩ := hw.elems hn
 have hys : ∀ e ∈ ys, e.length = n := by obtain ⟨_, _, _, h0, _⟩ := hw; exact h0
 obtain ⟨hne, base, rfl, h⟩ := h
 have hall : ∀ e ∈ els ++ ys, e.length = n := fun e he => by
  rcases List.mem_append.1 he with he | he
  ·exact hne e he
  ·exact hys e he
 have h1 : Nat.ble 1 n = true := Nat.ble_eq_true_of_le hn
 cases ys with
 | nil =>
  refine ⟨.slice ⟨base, els.length, none, 0⟩, H, fun k => ?_, ⟨hall, base, by simp, by simpa using h⟩, Fr.refl _ _, fun _ _ _ => rfl, fun e => absurd rfl e⟩
  show (opE (.append n by_) [_, .slice s] H).bind _ = _
  have hr' : roomy (els.length + s.len) by_ = true := by rw [h2]; exact hr
  have hb0 : Nat.beq s.len 0 = true := by rw [h2]; rfl
  simp only [opE, h3, Option.bind_some, appendOp, h1, hr', hb0, Bool.true_and, cond_true]
 | cons y ys =>
  have hb : Nat.beq s.len 0 = false := beq_ne (by rw [h2]; simp)
  have hr' : roomy (els.length + s.len) by_ = true := by rw [h2]; exact hr
  rcases h with ⟨rfl, rfl⟩ | ⟨r, ver, rfl, h4, h5⟩
  ·refine ⟨.slice ⟨some (H.size, 0), (y :: ys).length, none, 0⟩, H.push (newRow n (y :: ys).flatten), fun k => ?_, ⟨hall, some (H.size, 0), rfl, .inr ⟨H.size, 0, rfl, hl, Heap.get_push_self _ _⟩⟩, Fr.push hl _, fun r _ hr => Heap.get_push_ne _ _ (by omega), fun _ => ⟨_, 0, rfl, rfl⟩⟩
   show (opE (.append n by_) [.slice ⟨none, _, none, 0⟩, .slice s] H).bind _ = _
   have hr2 : roomy (0 + s.len) by_ = true := hr'
   simp only [opE, h3, Option.bind_some, appendOp, h1, hr2, hb, Bool.true_and, cond_true, cond_false, List.length_nil]
   rw [h2]
   rfl
  ·have hlt := Heap.get_lt h5
   refine ⟨.slice ⟨some (H.size, 0), (els ++ y :: ys).length, none, 0⟩, (H.kill r ⟨2, n, ver, els.flatten⟩).push (newRow n (els ++ y :: ys).flatten), fun k => ?_, ⟨hall, some (H.size, 0), rfl, .inr ⟨H.size, 0, rfl, hl, by exact Heap.get_push_self (H.kill r ⟨2, n, ver, els.flatten⟩) _⟩⟩, (Fr.set h4 _).trans (Fr.push (by rw [Heap.size_set]; exact hl) _), fun r' hn' hr' => ?_, fun _ => ⟨_, 0, rfl, rfl⟩⟩
   ·show (opE (.append n by_) [.slice ⟨some (r, 0), _, none, 0⟩, .slice s] H).bind _ = _
    have e0 : Nat.beq (0 % n) 0 = true := by rw [Nat.zero_mod]; rfl
    have e2 : Nat.beq 2 2 = true := rfl
    have e3 : Nat.beq n n = true := Nat.beq_refl n
    have e4 : cut els.flatten 0 (els.length * n) = some els.flatten := by rw [<- flatten_len hne]; exact cut_all _
    simp only [opE, h3, Option.bind_some, appendOp, h1, hr', hb, Bool.true_and, cond_true, cond_false, h5, e2, e3, e0, capRoom, e4, Option.map_some]
    rw [h2]
    simp [Heap.kill, Heap.size_set]
   ·have hne' : r ≠ r' := fun e => hn' ⟨_, 0, rfl, by rw [e]⟩
    rw [Heap.get_push_ne _ _ (by show r' ≠ H.size; omega)]
    exact Heap.get_set_ne _ hne' _
theorem z_box {x : SV} (hx : x.flat = true) (H : Heap) (k : KH) : slow.box x H k = k (.ptr (H.size, 0)) (H.push (newRow 1 [x])) := by
 have hit : x.item = true := by cases x <;> simp_all [SV.item, SV.flat]
 have hce : x.cells = [x] := by cases x <;> simp_all [SV.cells, SV.flat]
 show (opE .box [x] H).bind _ = _
 simp only [opE, hit, hce, cond_true, Option.bind_some]
def Holds (H : Heap) (p : SV) (x : SV) : Prop := ∃ r row, p = .ptr (r, 0) /\ H.get r = some row /\ row.kind ≠ 0 /\ row.cells[0]? = some x
theorem Holds.fr {H H' : Heap} {p x : SV} (h : Holds H p x) (hf : Frame H H') : Holds H' p x := by
 obtain ⟨r, row, h1, h2, h3, h4⟩ := h
 exact ⟨r, row, h1, by rw [hf.rows r (Heap.get_lt h2)]; exact h2, h3, h4⟩
theorem Holds.load {H : Heap} {p x : SV} (h : Holds H p x) (k : K1) : slow.load 1 false p H k = k x := by
 obtain ⟨r, row, rfl, h2, h3, h4⟩ := h
 show (opR (.load 1 false) [.ptr (r, 0)] H).bind k = _
 simp only [opR, Heap.read, h2, beq_ne h3, cond_false, cut_one h4, shaped, Option.bind_some]
theorem z_boxH {x : SV} (hx : x.flat = true) (H : Heap) : ∃ p H', (∀ k, slow.box x H k = k p H') /\ Frame H H' /\ Holds H' p x /\ p.good = true :=
 ⟨.ptr (H.size, 0), H.push (newRow 1 [x]), fun k => z_box hx H k, Fr.push (Nat.le_refl _) _, ⟨H.size, _, rfl, Heap.get_push_self _ _, by simp [newRow], rfl⟩, rfl⟩
theorem z_mkfn0 (f : Nat) {x : SV} (hx : x.good = true) (k : K1) : slow.mkfn f 0 [x] k = k (.fn f [] [x]) := by
 show (opP (.mkfn f 0) [x]).bind k = _
 simp [opP, hx]
theorem z_callv (C : CallC) (f : Nat) (b c xs : List SV) (H : Heap) (k : KH) : slow.callv C (.fn f b c :: xs) H k = slow.call (C f (b ++ (xs ++ c)) H) k := rfl
end Go.Sh
