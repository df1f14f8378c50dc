/- The shadow machine against the model: what a shadow value stands for, and when a shadow heap stands for a world. -/
import Derived.Test.YtpdkfleleebdaaaGreatDoorSh1
import Derived.OwnWalk
import Derived.Laws.IdiomCopy
import Derived.Laws.MakeOwn
import Derived.Laws.BytesArg
import Derived.ArgAppend
import Derived.Orders
import Derived.Scope
set_option linter.unusedVariables false
set_option linter.unusedSimpArgs false
namespace Go.Sh
open Go
structure Loc where
 block : Nat
 off : Nat
 ext : Nat
 esz : Nat
abbrev Place := Nat -> Loc
def addrOf (ρ : Place) (p : Nat × Nat) : Addr := ⟨(ρ p.1).block, (ρ p.1).off + p.2, none⟩
def baseC (ρ : Place) (cap alt : Nat) (p : Nat × Nat) : Addr := if cap = 0 then (if alt <= p.2 then addrOf ρ (p.1, alt) else { addrOf ρ p with spot := some (alt - p.2 - 1) }) else addrOf ρ p
def capC (ρ : Place) (s : Sl) : Nat :=
 match s.cap with
 | some c => c
 | none => match s.base with
  | none => 0
  | some p => ((ρ p.1).ext - p.2) / (ρ p.1).esz
mutual
def conc (ρ : Place) : SV -> Value
 | .junk => Go.undef
 | .undef => Go.undef
 | .bool b => .bool b
 | .int k n => .int k n
 | .str s => .string ⟨s.toArray⟩
 | .slice s => .slice (s.base.map (baseC ρ (capC ρ s) s.alt)) s.len (capC ρ s)
 | .ptr p => .pointer (some (addrOf ρ p))
 | .nilp => .pointer none
 | .fn f b c => .func (.func f) (concL ρ b).toArray (concL ρ c).toArray
 | .nilf => .nilFunc
 | .agg cs => .agg (concL ρ cs).toArray
 | .tuple vs => .tuple (concL ρ vs).toArray
 | .box _ => Go.undef
 | .lptr _ => Go.undef
def concL (ρ : Place) : List SV -> List Value
 | [] => []
 | v :: l => conc ρ v :: concL ρ l
end
theorem concL_eq (ρ : Place) : ∀ l, concL ρ l = l.map (conc ρ)
 | [] => by simp [concL]
 | v :: l => by simp [concL, concL_eq ρ l]
mutual
def okSV (ρ : Place) (n : Nat) : SV -> Prop
 | .junk => False
 | .box _ => False
 | .lptr _ => False
 | .slice s => (∀ p, s.base = some p -> p.1 < n) /\ s.len <= capC ρ s
 | .ptr p => p.1 < n
 | .fn _ b c => okL ρ n b /\ okL ρ n c
 | .agg cs => okL ρ n cs /\ cs.all SV.flat = true
 | .tuple vs => okL ρ n vs
 | _ => True
def okL (ρ : Place) (n : Nat) : List SV -> Prop
 | [] => True
 | v :: l => okSV ρ n v /\ okL ρ n l
end
theorem okL_iff (ρ : Place) (n : Nat) : ∀ l, okL ρ n l ↔ ∀ v ∈ l, okSV ρ n v
 | [] => by simp [okL]
 | v :: l => by simp [okL, okL_iff ρ n l]
theorem capC_congr {ρ ρ' : Place} {n : Nat} (h : ∀ i, i < n -> ρ' i = ρ i) (s : Sl) (hs : ∀ p, s.base = some p -> p.1 < n) : capC ρ' s = capC ρ s := by
 unfold capC
 cases s.cap with
 | some c => rfl
 | none =>
  cases hb : s.base with
  | none => rfl
  | some p => simp [h _ (hs p hb)]
mutual
theorem conc_congr {ρ ρ' : Place} {n : Nat} (h : ∀ i, i < n -> ρ' i = ρ i) : ∀ v, okSV ρ n v -> conc ρ' v = conc ρ v
 | .junk, _ => rfl
 | .undef, _ => rfl
 | .bool _, _ => rfl
 | .int _ _, _ => rfl
 | .str _, _ => rfl
 | .slice s, hv => by
  simp only [okSV] at hv
  have hc := capC_congr h s hv.1
  cases hb : s.base with
  | none => simp [conc, hb, hc]
  | some p =>
   have := h _ (hv.1 p hb)
   simp [conc, hc, hb, baseC, addrOf, this]
 | .ptr p, hv => by
  simp only [okSV] at hv
  simp [conc, addrOf, h _ hv]
 | .nilp, _ => rfl
 | .fn _ b c, hv => by
  simp only [okSV] at hv
  simp [conc, concL_congr h b hv.1, concL_congr h c hv.2]
 | .nilf, _ => rfl
 | .agg cs, hv => by
  simp only [okSV] at hv
  simp [conc, concL_congr h cs hv.1]
 | .tuple vs, hv => by
  simp only [okSV] at hv
  simp [conc, concL_congr h vs hv]
 | .box _, _ => rfl
 | .lptr _, _ => rfl
theorem concL_congr {ρ ρ' : Place} {n : Nat} (h : ∀ i, i < n -> ρ' i = ρ i) : ∀ l, okL ρ n l -> concL ρ' l = concL ρ l
 | [], _ => by simp [concL]
 | v :: l, hl => by
  simp only [okL] at hl
  simp [concL, conc_congr h v hl.1, concL_congr h l hl.2]
end
mutual
theorem okSV.ext {ρ ρ' : Place} {n m : Nat} (hρ : ∀ i, i < n -> ρ' i = ρ i) (h : n <= m) : ∀ v, okSV ρ n v -> okSV ρ' m v
 | .junk, hv => by simp [okSV] at hv
 | .undef, _ => by simp [okSV]
 | .bool _, _ => by simp [okSV]
 | .int _ _, _ => by simp [okSV]
 | .str _, _ => by simp [okSV]
 | .slice s, hv => by
  simp only [okSV] at hv ⊢
  exact ⟨fun p hp => Nat.lt_of_lt_of_le (hv.1 p hp) h, by rw [capC_congr hρ s hv.1]; exact hv.2⟩
 | .ptr p, hv => by
  simp only [okSV] at hv ⊢
  exact Nat.lt_of_lt_of_le hv h
 | .nilp, _ => by simp [okSV]
 | .fn _ b c, hv => by
  simp only [okSV] at hv ⊢
  exact ⟨okL.ext hρ h b hv.1, okL.ext hρ h c hv.2⟩
 | .nilf, _ => by simp [okSV]
 | .agg cs, hv => by
  simp only [okSV] at hv ⊢
  exact ⟨okL.ext hρ h cs hv.1, hv.2⟩
 | .tuple vs, hv => by
  simp only [okSV] at hv ⊢
  exact okL.ext hρ h vs hv
 | .box _, hv => by simp [okSV] at hv
 | .lptr _, hv => by simp [okSV] at hv
theorem okL.ext {ρ ρ' : Place} {n m : Nat} (hρ : ∀ i, i < n -> ρ' i = ρ i) (h : n <= m) : ∀ l, okL ρ n l -> okL ρ' m l
 | [], _ => by simp [okL]
 | v :: l, hl => by
  simp only [okL] at hl ⊢
  exact ⟨okSV.ext hρ h v hl.1, okL.ext hρ h l hl.2⟩
end
theorem Heap.get_lt {H : Heap} {r : Nat} {row : Row} (h : H.get r = some row) : r < H.size := by
 unfold Heap.get at h
 cases hb : Nat.blt r H.size with
 | false => simp [hb] at h
 | true => simpa [Nat.blt_eq] using hb
theorem Tr.get_val (t : Tr) : t.get 0 = t.val := by cases t <;> rfl
theorem Tr.get_left (t : Tr) (m : Nat) (h : Nat.beq (m % 2) 0 = true) : t.get (m + 1) = t.left.get (m / 2) := by
 cases t with
 | nil => rfl
 | node v l r => simp only [Tr.get, Tr.left, h, cond_true]
theorem Tr.get_right (t : Tr) (m : Nat) (h : Nat.beq (m % 2) 0 = false) : t.get (m + 1) = t.right.get (m / 2) := by
 cases t with
 | nil => rfl
 | node v l r => simp only [Tr.get, Tr.right, h, cond_false]
theorem Tr.get_set_self (row : Row) : ∀ (f : Nat) (t : Tr) (n : Nat), n < f -> (Tr.setF row f t n).get n = some row
 | 0, _, _, h => by omega
 | f + 1, t, 0, _ => rfl
 | f + 1, t, m + 1, h => by
  simp only [Tr.setF]
  cases hb : Nat.beq (m % 2) 0 with
  | true => simp only [cond_true, Tr.get, hb]; exact Tr.get_set_self row f _ _ (by omega)
  | false => simp only [cond_false, Tr.get, hb]; exact Tr.get_set_self row f _ _ (by omega)
theorem Tr.get_set_ne (row : Row) : ∀ (f : Nat) (t : Tr) (n k : Nat), n ≠ k -> (Tr.setF row f t n).get k = t.get k
 | 0, _, _, _, _ => rfl
 | f + 1, t, 0, 0, h => absurd rfl h
 | f + 1, t, 0, k + 1, _ => by
  simp only [Tr.setF]
  cases hb : Nat.beq (k % 2) 0 with
  | true => rw [Tr.get_left _ _ hb, Tr.get_left _ _ hb]; rfl
  | false => rw [Tr.get_right _ _ hb, Tr.get_right _ _ hb]; rfl
 | f + 1, t, m + 1, 0, _ => by
  simp only [Tr.setF]
  cases Nat.beq (m % 2) 0 with
  | true => rw [cond_true, Tr.get_val t]; rfl
  | false => rw [cond_false, Tr.get_val t]; rfl
 | f + 1, t, m + 1, k + 1, h => by
  simp only [Tr.setF]
  cases hm : Nat.beq (m % 2) 0 with
  | true =>
   rw [cond_true]
   cases hk : Nat.beq (k % 2) 0 with
   | true =>
    rw [Tr.get_left _ _ hk, Tr.get_left _ _ hk]
    have e1 := Nat.eq_of_beq_eq_true hm
    have e2 := Nat.eq_of_beq_eq_true hk
    exact Tr.get_set_ne row f _ _ _ (by omega)
   | false => rw [Tr.get_right _ _ hk, Tr.get_right _ _ hk]; rfl
  | false =>
   rw [cond_false]
   cases hk : Nat.beq (k % 2) 0 with
   | true => rw [Tr.get_left _ _ hk, Tr.get_left _ _ hk]; rfl
   | false =>
    rw [Tr.get_right _ _ hk, Tr.get_right _ _ hk]
    have e1 : m % 2 ≠ 0 := fun e => by rw [e] at hm; cases hm
    have e2 : k % 2 ≠ 0 := fun e => by rw [e] at hk; cases hk
    exact Tr.get_set_ne row f _ _ _ (by omega)
theorem Heap.get_push_self (H : Heap) (row : Row) : (H.push row).get H.size = some row := by
 have : Nat.blt H.size (H.size + 1) = true := by rw [Nat.blt_eq]; omega
 simp only [Heap.get, Heap.push, this, cond_true]
 exact Tr.get_set_self _ _ _ _ (Nat.lt_succ_self _)
theorem Heap.get_push_ne (H : Heap) (row : Row) {r : Nat} (h : r ≠ H.size) : (H.push row).get r = H.get r := by
 have : Nat.blt r (H.size + 1) = Nat.blt r H.size := by
  rw [Bool.eq_iff_iff, Nat.blt_eq, Nat.blt_eq]; omega
 simp only [Heap.get, Heap.push, this]
 rw [Tr.get_set_ne _ _ _ _ _ (Ne.symm h)]
theorem Heap.size_push (H : Heap) (row : Row) : (H.push row).size = H.size + 1 := rfl
theorem Heap.get_set_self {H : Heap} {r : Nat} {row0 : Row} (h : H.get r = some row0) (row : Row) : (H.set r row).get r = some row := by
 have hlt := Heap.get_lt h
 have hb : Nat.blt r H.size = true := by rw [Nat.blt_eq]; exact hlt
 simp only [Heap.get, Heap.set, hb, cond_true]
 exact Tr.get_set_self _ _ _ _ (Nat.lt_succ_self _)
theorem Heap.get_set_ne (H : Heap) {r r' : Nat} (h : r ≠ r') (row : Row) : (H.set r row).get r' = H.get r' := by
 simp only [Heap.get, Heap.set]
 rw [Tr.get_set_ne _ _ _ _ _ h]
theorem Heap.size_set (H : Heap) (r : Nat) (row : Row) : (H.set r row).size = H.size := rfl
def RowExt : Option Row -> Option Row -> Prop
 | some a, some b => a.ver <= b.ver /\ (b.ver = a.ver -> b = a) /\ (b.kind ≠ 0 -> b.kind = a.kind)
 | none, none => True
 | _, _ => False
theorem RowExt.refl (a : Option Row) : RowExt a a := by cases a <;> simp [RowExt]
theorem RowExt.trans {a b c : Option Row} (h : RowExt a b) (h' : RowExt b c) : RowExt a c := by
 cases a <;> cases b <;> cases c <;> simp only [RowExt] at *
 rename_i a b c
 obtain ⟨h1, h2, h3⟩ := h
 obtain ⟨k1, k2, k3⟩ := h'
 refine ⟨by omega, fun e => ?_, fun e => ?_⟩
 ·have hb : b.ver = a.ver := by omega
  have hc : c.ver = b.ver := by omega
  rw [k2 hc, h2 hb]
 ·have := k3 e
  rw [this]
  exact h3 (by rw [<- this]; exact e)
structure HExt (H H' : Heap) : Prop where
 size : H.size <= H'.size
 rows : ∀ r, r < H.size -> RowExt (H.get r) (H'.get r)
 news : ∀ r, H.size <= r -> ∀ row, H'.get r = some row -> row.kind ≠ 0 -> row.kind = 2
theorem HExt.refl (H : Heap) : HExt H H := ⟨Nat.le_refl _, fun _ _ => RowExt.refl _, fun r hr row h => by
 have := Heap.get_lt h
 omega⟩
theorem HExt.trans {H H' H'' : Heap} (h : HExt H H') (h' : HExt H' H'') : HExt H H'' :=
 ⟨Nat.le_trans h.size h'.size, fun r hr => (h.rows r hr).trans (h'.rows r (Nat.lt_of_lt_of_le hr h.size)), fun r hr row hg hk => by
  by_cases hlt : r < H'.size
  ·have := h'.rows r hlt
   rw [hg] at this
   cases hg' : H'.get r with
   | none => simp [hg', RowExt] at this
   | some row' =>
    rw [hg'] at this
    simp only [RowExt] at this
    have h1 := this.2.2 hk
    rw [h1]
    exact h.news r hr row' hg' (by rw [<- h1]; exact hk)
  ·exact h'.news r (by omega) row hg hk⟩
theorem HExt.push {H H' : Heap} (h : HExt H H') (row : Row) (hk : row.kind = 2) : HExt H (H'.push row) := by
 refine h.trans ⟨by simp [Heap.size_push], fun r hr => ?_, fun r hr row' hg _ => ?_⟩
 ·rw [Heap.get_push_ne _ _ (by omega)]; exact RowExt.refl _
 ·have := Heap.get_lt hg
  rw [Heap.size_push] at this
  obtain rfl : r = H'.size := by omega
  rw [Heap.get_push_self] at hg
  cases hg
  exact hk
theorem HExt.set {H H' : Heap} (h : HExt H H') {r : Nat} {row0 : Row} (hg : H'.get r = some row0) (row : Row) (hv : row0.ver < row.ver) (hk : row.kind ≠ 0 -> row.kind = row0.kind) : HExt H (H'.set r row) := by
 refine h.trans ⟨by simp [Heap.size_set], fun r' hr' => ?_, fun r' hr' row' hg' _ => ?_⟩
 ·by_cases hrr : r = r'
  ·subst hrr
   rw [Heap.get_set_self hg, hg]
   exact ⟨by omega, fun e => by omega, hk⟩
  ·rw [Heap.get_set_ne _ hrr]; exact RowExt.refl _
 ·have := Heap.get_lt hg'
  rw [Heap.size_set] at this
  omega
structure Ctx where
 w0 : World
 H0 : Heap
 ρ0 : Place
def Ctx.own (cx : Ctx) (b : Nat) : Prop := ∃ r row, cx.H0.get r = some row /\ row.kind = 2 /\ (cx.ρ0 r).block = b
def unfrozen (mk : Nat × Nat) (lo hi : Nat) : Prop := ∀ j, lo <= j -> j < hi -> ¬ (mk.1 <= j /\ j < mk.2)
structure RowRel (ρ : Place) (n : Nat) (w : World) (l : Loc) (row : Row) : Prop where
 blk : ∃ arr E mk, w.heap[l.block]? = some (.cells arr E mk) /\ l.off + l.ext <= arr.size /\ 
  (∀ j v, row.cells[j]? = some v -> arr[l.off + j]? = some (conc ρ v)) /\ (row.kind = 2 -> unfrozen mk l.off (l.off + l.ext))
 fits : row.cells.length <= l.ext
 ok : ∀ v ∈ row.cells, okSV ρ n v /\ v.flat = true
 esz : l.esz = row.esz
structure HRel (cx : Ctx) (ρ : Place) (H : Heap) (w : World) : Prop where
 os : w.os = cx.w0.os
 tape : w.tape = cx.w0.tape
 output : w.output = cx.w0.output
 size : cx.w0.heap.size <= w.heap.size
 keep : ∀ b, b < cx.w0.heap.size -> ¬ cx.own b -> w.heap[b]? = cx.w0.heap[b]?
 rows : ∀ r row, H.get r = some row -> row.kind ≠ 0 -> RowRel ρ H.size w (ρ r) row
 own : ∀ r row, H.get r = some row -> row.kind = 2 -> cx.own (ρ r).block \/ cx.w0.heap.size <= (ρ r).block
 sep : ∀ r r' row row', H.get r = some row -> H.get r' = some row' -> row.kind = 2 -> row'.kind ≠ 0 -> r ≠ r' -> (ρ r).block ≠ (ρ r').block
 ext : HExt cx.H0 H
 old : ∀ i, i < cx.H0.size -> ρ i = cx.ρ0 i
def SlotRel (ρ : Place) (lam : Nat -> Nat) (der : Nat -> Option Nat) (n t : Nat) (sv : SV) (v : Value) : Prop :=
 match sv with
 | .junk => True
 | .box _ => v = .pointer (some ⟨lam t, 0, none⟩)
 | .lptr o => ∃ u, der t = some u /\ v = .pointer (some ⟨lam u, o, none⟩)
 | sv => okSV ρ n sv /\ v = conc ρ sv
structure BoxRel (ρ : Place) (n : Nat) (w : World) (b : Nat) (cs : List SV) : Prop where
 blk : ∃ arr E mk, w.heap[b]? = some (.cells arr E mk) /\ arr.size = cs.length /\ (∀ (j : Nat) (v : SV), cs[j]? = some v -> arr[j]? = some (conc ρ v)) /\ unfrozen mk 0 cs.length
 ok : ∀ v ∈ cs, okSV ρ n v /\ v.flat = true
structure TRel (cx : Ctx) (ρ : Place) (lam : Nat -> Nat) (loc : Nat -> Bool) (der : Nat -> Option Nat) (H : Heap) (w : World) (T : Tmps) (a : Act) : Prop where
 len : T.length = a.tmps.size
 slot : ∀ t v, T[t]? = some v -> SlotRel ρ lam der H.size t v (a.tmps.getD t Go.undef)
 box : ∀ t cs, T[t]? = some (.box cs) -> BoxRel ρ H.size w (lam t) cs
 boxsep : ∀ t t' cs cs', T[t]? = some (.box cs) -> T[t']? = some (.box cs') -> t ≠ t' -> lam t ≠ lam t'
 boxrow : ∀ t cs, T[t]? = some (.box cs) -> ∀ r row, H.get r = some row -> row.kind ≠ 0 -> (ρ r).block ≠ lam t
 boxloc : ∀ t cs, T[t]? = some (.box cs) -> loc t = true
 boxnew : ∀ t cs, T[t]? = some (.box cs) -> cx.w0.heap.size <= lam t
 nodefer : a.defers = []
end Go.Sh
