/- What reads memory. -/
import Derived.Test.YtpdkfleleebdaaaGreatDoorSh8
import Derived.Laws.Slices
set_option linter.unusedVariables false
set_option linter.unusedSimpArgs false
namespace Go.Sh
open Go
section
variable {P : Program} {h : Hints} {cx : Ctx} {ρ : Place} {lam : Nat -> Nat} {T : Tmps} {H : Heap} {a : Act} {w : World}
theorem cut_get {cs l : List SV} {o m : Nat} (hc : cut cs o m = some l) : l.length = m /\ ∀ (j : Nat) (v : SV), l[j]? = some v -> j < m /\ cs[o + j]? = some v := by
 obtain ⟨h1, rfl⟩ := cut_ok hc
 refine ⟨by simp; omega, fun j v hj => ?_⟩
 rw [List.getElem?_take] at hj
 split at hj
 ·rename_i hlt
  rw [List.getElem?_drop] at hj
  exact ⟨hlt, hj⟩
 ·cases hj
theorem cut_mem {cs l : List SV} {o m : Nat} (hc : cut cs o m = some l) : ∀ v ∈ l, v ∈ cs := by
 obtain ⟨h1, rfl⟩ := cut_ok hc
 exact fun v hv => List.mem_of_mem_drop (List.mem_of_mem_take hv)
theorem read_row {r o m : Nat} {l : List SV} (hl : H.read r o m = some l) : ∃ row, H.get r = some row /\ row.kind ≠ 0 /\ cut row.cells o m = some l := by
 unfold Heap.read at hl
 cases hg : H.get r with
 | none => simp [hg] at hl
 | some row =>
  simp only [hg] at hl
  cases hk : Nat.beq row.kind 0 with
  | true => simp [hk] at hl
  | false =>
   simp only [hk, cond_false] at hl
   exact ⟨row, rfl, fun e => by rw [e] at hk; simp at hk, hl⟩
theorem cell_of_row (hr : HRel cx ρ H w) {r : Nat} {row : Row} (hg : H.get r = some row) (hk : row.kind ≠ 0) {j : Nat} {v : SV} (hv : row.cells[j]? = some v) :
  w.cell? ⟨(ρ r).block, (ρ r).off + j, none⟩ = some (conc ρ v) := by
 obtain ⟨arr, E, mk, hb, h1, h2, h3⟩ := (hr.rows r row hg hk).blk
 simp [World.cell?, hb, h2 j v hv]
theorem read_ok (hr : HRel cx ρ H w) {r o m : Nat} {l : List SV} (hl : H.read r o m = some l) :
  (∀ (j : Nat) (v : SV), l[j]? = some v -> w.cell? ⟨(ρ r).block, (ρ r).off + o + j, none⟩ = some (conc ρ v)) /\ okL ρ H.size l /\ l.all SV.flat = true /\ l.length = m := by
 obtain ⟨row, hg, hk, hc⟩ := read_row hl
 have hok := (hr.rows r row hg hk).ok
 obtain ⟨h1, h2⟩ := cut_get hc
 refine ⟨fun j v hj => ?_, ?_, ?_, h1⟩
 ·rw [Nat.add_assoc]; exact cell_of_row hr hg hk (h2 j v hj).2
 ·rw [okL_iff]; exact fun v hv => (hok v (cut_mem hc v hv)).1
 ·rw [List.all_eq_true]; exact fun v hv => (hok v (cut_mem hc v hv)).2
theorem A_load {o : Oper} {t : TypeId} {x : Operand} {m : Nat} {ag : Bool} {sx : SV} (hop : o.op = .load t x) (hs : sizeT P t = some m) (ha : aggT P t = some ag) (ex : VR ρ H.size sx (a.eval x))
  (hr : HRel cx ρ H w) {z : SV} (hz : opR (.load m ag) [sx] H = some z) : RunsTo P ρ H.size a w o z := by
 cases sx <;> simp only [opR, Option.bind_eq_some_iff] at hz <;> (try cases hz)
 rename_i p l hz
 obtain ⟨h1, h2, h3, h4⟩ := read_ok hr hz.1
 obtain ⟨o1, e1⟩ := ex.ne (by simp)
 have hl := run_loadAt (P := P) (w := w) (ρ := ρ) (n := H.size) (ρ p.1).block ((ρ p.1).off + p.2) ha hs h4 hz.2 h2 h3 h1
 exact ⟨_, by simp [execOp, hop, e1, conc, addrOf, hl.1], .of hl.2⟩
theorem box_cell {cs : List SV} {b : Nat} (hb : BoxRel ρ H.size w b cs) {j : Nat} {v : SV} (hv : cs[j]? = some v) : w.cell? ⟨b, j, none⟩ = some (conc ρ v) := by
 obtain ⟨arr, E, mk, h1, h2, h3, h4⟩ := hb.blk
 simp [World.cell?, h1, h3 j v hv]
theorem box_cut {cs l : List SV} {b o m : Nat} (hb : BoxRel ρ H.size w b cs) (hc : cut cs o m = some l) :
  (∀ (j : Nat) (v : SV), l[j]? = some v -> w.cell? ⟨b, o + j, none⟩ = some (conc ρ v)) /\ okL ρ H.size l /\ l.all SV.flat = true /\ l.length = m := by
 obtain ⟨h1, h2⟩ := cut_get hc
 refine ⟨fun j v hj => box_cell hb (h2 j v hj).2, ?_, ?_, h1⟩
 ·rw [okL_iff]; exact fun v hv => (hb.ok v (cut_mem hc v hv)).1
 ·rw [List.all_eq_true]; exact fun v hv => (hb.ok v (cut_mem hc v hv)).2
theorem slot_of (hr : TRel cx ρ lam h.isLoc h.derOf H w T a) {t : Nat} (hj : getT T t ≠ .junk) : SlotRel ρ lam h.derOf H.size t (getT T t) (a.tmps.getD t Go.undef) /\ T[t]? = some (getT T t) := by
 rcases getT_cases T t with hg | hg
 ·exact ⟨hr.slot t _ hg, hg⟩
 ·exact absurd hg hj
theorem A_lload {o : Oper} {t : TypeId} {u m : Nat} {ag : Bool} {off : Nat} (hop : o.op = .load t (.tmp u)) (hs : sizeT P t = some m) (ha : aggT P t = some ag)
  (hr : TRel cx ρ lam h.isLoc h.derOf H w T a) (h0 : off = 0) {z : SV} (hz : opP (.lload off m ag) [getT T u] = some z) : RunsTo P ρ H.size a w o z := by
 subst h0
 have hj : getT T u ≠ .junk := by intro e; rw [e] at hz; simp [opP] at hz
 obtain ⟨s1, s2⟩ := slot_of hr hj
 generalize getT T u = su at *
 cases su <;> simp only [opP, Option.bind_eq_some_iff] at hz <;> (try cases hz)
 rename_i cs l hz
 simp only [SlotRel] at s1
 obtain ⟨h1, h2, h3, h4⟩ := box_cut (hr.box u cs s2) hz.1
 have hl := run_loadAt (P := P) (w := w) (ρ := ρ) (n := H.size) (lam u) 0 ha hs h4 hz.2 h2 h3 h1
 exact ⟨_, by simp [execOp, hop, Act.eval, s1, hl.1], .of hl.2⟩
theorem A_lloadp {o : Oper} {t : TypeId} {u b m : Nat} {ag : Bool} (hop : o.op = .load t (.tmp u)) (hd : h.derOf u = some b) (hs : sizeT P t = some m) (ha : aggT P t = some ag)
  (hr : TRel cx ρ lam h.isLoc h.derOf H w T a) {z : SV} (hz : opP (.lloadp m ag) [getT T b, getT T u] = some z) : RunsTo P ρ H.size a w o z := by
 have hj : getT T u ≠ .junk := by intro e; rw [e] at hz; cases getT T b <;> simp [opP] at hz
 have hj' : getT T b ≠ .junk := by intro e; rw [e] at hz; simp [opP] at hz
 obtain ⟨s1, s2⟩ := slot_of hr hj
 obtain ⟨s3, s4⟩ := slot_of hr hj'
 generalize getT T u = su at *
 generalize getT T b = sb at *
 cases sb <;> cases su <;> simp only [opP, Option.bind_eq_some_iff] at hz <;> (try cases hz)
 rename_i cs off l hz
 simp only [SlotRel] at s1 s3
 obtain ⟨u', hu', e1⟩ := s1
 rw [hd] at hu'
 cases hu'
 obtain ⟨h1, h2, h3, h4⟩ := box_cut (hr.box b cs s4) hz.1
 have hl := run_loadAt (P := P) (w := w) (ρ := ρ) (n := H.size) (lam b) off ha hs h4 hz.2 h2 h3 h1
 exact ⟨_, by simp [execOp, hop, Act.eval, e1, hl.1], .of hl.2⟩
theorem capOf_le (hr : HRel cx ρ H w) {sz c : Nat} {s : Sl} (hc : capOf H sz s = some c) : c <= capC ρ s := by
 unfold capOf at hc
 unfold capC
 cases hs : s.cap with
 | some c' => simp [hs] at hc; simp [hc]
 | none =>
  simp only [hs] at hc ⊢
  cases hb : s.base with
  | none => simp [hb] at hc; simp [<- hc]
  | some p =>
   obtain ⟨r, o⟩ := p
   simp only [hb] at hc ⊢
   cases hg : H.get r with
   | none => simp [hg] at hc
   | some row =>
    simp only [hg] at hc
    cases hk : (Nat.beq row.kind 0 || !Nat.beq row.esz sz) with
    | true => simp [hk] at hc
    | false =>
     simp only [hk, cond_false, Option.some.injEq] at hc
     simp only [Bool.or_eq_false_iff, Bool.not_eq_false'] at hk
     have hkind : row.kind ≠ 0 := fun e => by rw [e] at hk; simp at hk
     have hrow := hr.rows r row hg hkind
     rw [hrow.esz, Nat.eq_of_beq_eq_true hk.2, <- hc]
     exact Nat.div_le_div_right (Nat.sub_le_sub_right hrow.fits _)
theorem fits_le (hr : HRel cx ρ H w) {sz : Nat} {s : Sl} {m : Int} (hok : s.len <= capC ρ s) (hf : fitsCap H sz s m = true) : m <= capC ρ s := by
 simp only [fitsCap, Bool.or_eq_true, decide_eq_true_eq] at hf
 rcases hf with hf | hf
 ·omega
 ·cases hc : capOf H sz s with
  | none => simp [hc] at hf
  | some c =>
   simp only [hc, decide_eq_true_eq] at hf
   have := capOf_le hr hc
   omega
theorem capC_sub {sz : Nat} {s : Sl} {a n : Nat} (cap : Option Nat) (ha : a <= capC ρ s) (hsz : ∀ p, s.base = some p -> s.cap = none -> 0 < a -> (ρ p.1).esz = sz /\ 0 < sz) :
  (cap = s.cap.map (· - a) -> capC ρ (subSl sz s a n cap) = capC ρ s - a) := by
 intro hcap
 subst hcap
 cases a with
 | zero =>
  cases hs : s.cap <;> simp [subSl, capC, hs]
 | succ a =>
  cases hb : s.base with
  | none => cases hs : s.cap <;> simp [subSl, capC, hs, hb]
  | some p =>
   cases hs : s.cap with
   | some c => simp [subSl, capC, hs, hb]
   | none =>
    obtain ⟨h1, h2⟩ := hsz p hb hs (by omega)
    simp only [subSl, hb, capC, hs, Option.map_none]
    rw [h1]
    rw [<- Nat.sub_sub, Nat.mul_comm, Nat.sub_mul_div]
theorem run_convert_bytes_zero {P : Program} (w : World) (src e : TypeId) (hs : P.underlying src = some (.slice e)) (he : P.underlying e = some (.int .u8)) (a : Addr) (cap : Nat) :
  ∀ dst, P.underlying dst = some .string -> (convert src dst (.slice (some a) 0 cap)).run P w = .ok (.string (strOfNums [])) w := by
 intro dst hd
 have hl : (loadCells a 0).run P w = .ok (([] : List Int).map (Value.int .u8)).toArray w := by
  have := run_loadCells_list (P := P) w a (([] : List Int).map (Value.int .u8)) (fun j v hj => by simp at hj)
  simpa using this
 rw [run_convert_bytes_string w src dst e _ 0 cap hs he hd, run_bytesToString w _ 0 cap [] hl, foldl_push_bytes]
 simp [strOfNums, ByteArray.empty, ByteArray.emptyWithCapacity]
 rfl
theorem conc_sub {sz : Nat} {s : Sl} {a n : Nat} {cap : Option Nat} (hc' : Nat) (hcc : capC ρ (subSl sz s a n cap) = hc') (h0 : a = 0 -> (hc' = 0 -> capC ρ s = 0 \/ s.base.map (·.2) = some s.alt \/ s.base = none) /\ (capC ρ s = 0 -> hc' = 0))
  (ha : a <= capC ρ s) :
  conc ρ (.slice (subSl sz s a n cap)) = .slice (if a + hc' = a then (s.base.map (baseC ρ (capC ρ s) s.alt)) else (s.base.map (baseC ρ (capC ρ s) s.alt)).map (·.add (a * sz))) n hc' := by
 simp only [conc, hcc]
 cases a with
 | zero =>
  obtain ⟨h1, h2⟩ := h0 rfl
  cases hb : s.base with
  | none => simp [subSl, hb]
  | some p =>
   simp only [subSl, hb, Option.map_some, Nat.zero_add, Nat.zero_mul, Addr.add_zero', ite_self]
   congr 2
   unfold baseC
   by_cases hz : hc' = 0
   ·rcases h1 hz with h | h | h
    ·simp [hz, h]
    ·simp [hb] at h
     simp [hz, h]
     try (simp [<- h]; done)
    ·simp [hb] at h
   ·have : capC ρ s ≠ 0 := fun e => hz (h2 e)
    simp [hz, this]
 | succ a =>
  cases hb : s.base with
  | none => simp [subSl, hb]
  | some p =>
   have : capC ρ s ≠ 0 := by omega
   simp only [subSl, hb, Option.map_some]
   by_cases hz : hc' = 0
   ·simp [hz, baseC, this]
   ·have hne : ¬ (a + 1 + hc' = a + 1) := by omega
    simp [hz, hne, baseC, this, add_place]
theorem eszOk_of (hr : HRel cx ρ H w) {sz : Nat} {s : Sl} {a : Int} (h0 : 0 <= a) (hz : eszOk H sz s a = true) : ∀ p, s.base = some p -> s.cap = none -> 0 < a.toNat -> (ρ p.1).esz = sz /\ 0 < sz := by
 intro p hp hc ha
 have hn : ¬ a = 0 := by omega
 simp only [eszOk, hn, hc, hp, decide_false, Option.isSome_none, Bool.or_self, Bool.false_or] at hz
 cases hg : H.get p.1 with
 | none => simp [hg] at hz
 | some row =>
  simp only [hg, Bool.and_eq_true, Bool.not_eq_true'] at hz
  have hkind : row.kind ≠ 0 := fun e => by rw [e] at hz; simp at hz
  have hrow := hr.rows p.1 row hg hkind
  exact ⟨by rw [hrow.esz]; exact Nat.eq_of_beq_eq_true hz.1.2, Nat.le_of_ble_eq_true hz.2⟩
theorem ok_sub {sz : Nat} {s : Sl} {a n : Nat} {cap : Option Nat} (hs : okSV ρ H.size (.slice s)) (hn : n <= capC ρ (subSl sz s a n cap)) : okSV ρ H.size (.slice (subSl sz s a n cap)) := by
 simp only [okSV] at hs ⊢
 cases a with
 | zero => exact ⟨by simpa [subSl] using hs.1, by simpa [subSl] using hn⟩
 | succ a =>
  cases hb : s.base with
  | none => simp only [subSl, hb] at hn ⊢; exact ⟨by simp, hn⟩
  | some p =>
   simp only [subSl, hb] at hn ⊢
   exact ⟨fun q hq => by simp at hq; subst hq; exact hs.1 p hb, hn⟩
theorem VR.optInt {o : Option Operand} {l : List Opd} (hr : TRel cx ρ lam h.isLoc h.derOf H w T a) (ho : optOpd h o = some l) :
  (o = none /\ l = []) \/ ∃ x y, o = some x /\ l = [y] /\ VR ρ H.size (y.ev T) (a.eval x) := by
 cases o with
 | none => simp [optOpd] at ho; exact .inl ⟨rfl, ho⟩
 | some x =>
  simp only [optOpd, Option.map_eq_some_iff] at ho
  obtain ⟨y, hy, rfl⟩ := ho
  exact .inr ⟨x, y, rfl, rfl, ev_opd hr hy⟩
theorem run_cut {t e : TypeId} {sz : Nat} (ht : P.underlying t = some (.slice e)) (hs : sizeT P e = some sz) (b : Option Addr) (len cap : Nat) (lo hi mx : Option Value) (l hh m : Nat)
  (hb : (Instr.sliceBounds true len cap lo hi mx).run P w = .ok (l, hh, m) w) :
  (Instr.sliceAt t (.slice b len cap) lo hi mx).run P w = .ok (.slice (if m = l then b else b.map (·.add (l * sz))) (hh - l) (m - l)) w := by
 simp [Instr.sliceAt, Instr.slice, run_underlying ht, hb, run_sizeT hs]
theorem A_slice {o : Oper} {t e : TypeId} {sz : Nat} {x : Operand} {lo hi mx : Option Operand} {sx : SV} {slo shi smx : Option SV} (hop : o.op = .slice t x lo hi mx) (ht : P.underlying t = some (.slice e)) (hs : sizeT P e = some sz)
  (ex : VR ρ H.size sx (a.eval x)) (elo : (lo = none /\ slo = none) \/ ∃ y s, lo = some y /\ slo = some s /\ VR ρ H.size s (a.eval y))
  (ehi : (hi = none /\ shi = none) \/ ∃ y s, hi = some y /\ shi = some s /\ VR ρ H.size s (a.eval y))
  (emx : (mx = none /\ smx = none) \/ ∃ y s, mx = some y /\ smx = some s /\ VR ρ H.size s (a.eval y))
  (hr : HRel cx ρ H w) {s : Sl} (hsx : sx = .slice s) {z : SV} (hz : sliceOp H sz s slo shi smx = some z) : RunsTo P ρ H.size a w o z := by
 subst hsx
 obtain ⟨o1, e1⟩ := ex.ne (by simp)
 have o1' := o1
 simp only [okSV] at o1
 have hlo : ∀ k, loOf slo = some k -> 0 <= k -> (lo = none /\ k = 0) \/ ∃ y kk, lo = some y /\ a.eval y = .int kk k := by
  intro k hk h0
  rcases elo with ⟨rfl, rfl⟩ | ⟨y, s', rfl, rfl, hv⟩
  ·simp [loOf] at hk; exact .inl ⟨rfl, hk.symm⟩
  ·cases s' <;> simp [loOf] at hk
   subst hk
   exact .inr ⟨y, _, rfl, hv.int_of⟩
 unfold sliceOp at hz
 split at hz
 ·
  rename_i k hk
  have hhi : hi = none := by rcases ehi with ⟨e, _⟩ | ⟨_, _, _, hc, _⟩; exact e; cases hc
  subst hhi
  have hmx : mx = none := by rcases emx with ⟨e, _⟩ | ⟨_, _, _, hc, _⟩; exact e; cases hc
  subst hmx
  split at hz
  rotate_left
  ·cases hz
  rename_i hc
  obtain ⟨h0, h1, h2⟩ := hc
  simp only [Option.some.injEq] at hz
  subst hz
  have hz2 := eszOk_of hr h0 h2
  have hkl : k.toNat <= s.len := by omega
  have hcc := capC_sub (ρ := ρ) (sz := sz) (n := s.len - k.toNat) (s.cap.map (· - k.toNat)) (Nat.le_trans hkl o1.2) hz2 rfl
  have hcon := conc_sub (ρ := ρ) (capC ρ s - k.toNat) hcc (fun e => by rw [e]; simp; exact fun h => .inl h) (Nat.le_trans hkl o1.2)
  refine ⟨_, ?_, .of (ok_sub o1' (by rw [hcc]; have := o1.2; omega))⟩
  have hbnd : (Instr.sliceBounds true s.len (capC ρ s) (lo.map a.eval) none none).run P w = .ok (k.toNat, s.len, capC ρ s) w := by
   rcases hlo k hk h0 with ⟨rfl, rfl⟩ | ⟨y, kk, rfl, hy⟩
   ·simp [Instr.sliceBounds]
   ·simp [Instr.sliceBounds, hy, run_sliceBound, h0, h1]
  have := run_cut (P := P) (w := w) ht hs (s.base.map (baseC ρ (capC ρ s) s.alt)) s.len (capC ρ s) (lo.map a.eval) none none _ _ _ hbnd
  simp only [execOp, hop, e1, conc, Option.map_none, Sem.run_bind]
  rw [conc] at hcon
  rw [this, hcon, show k.toNat + (capC ρ s - k.toNat) = capC ρ s by have := o1.2; omega]
  rfl
 ·
  rename_i k kb bb hk
  obtain ⟨yb, hyb, hvb⟩ : ∃ yb, hi = some yb /\ a.eval yb = .int kb bb := by
   rcases ehi with ⟨_, hc⟩ | ⟨yb, sb, e, hsb, hvb⟩
   ·cases hc
   ·cases hsb; exact ⟨yb, e, hvb.int_of⟩
  subst hyb
  have hmx : mx = none := by rcases emx with ⟨e, _⟩ | ⟨_, _, _, hc, _⟩; exact e; cases hc
  subst hmx
  split at hz
  rotate_left
  ·cases hz
  rename_i hc
  obtain ⟨h0, h1, h3, h2⟩ := hc
  simp only [Option.some.injEq] at hz
  subst hz
  have hz2 := eszOk_of hr h0 h2
  have hbc := fits_le hr o1.2 h3
  have hkl : k.toNat <= capC ρ s := by omega
  have hcc := capC_sub (ρ := ρ) (sz := sz) (n := (bb - k).toNat) (s.cap.map (· - k.toNat)) hkl hz2 rfl
  have hcon := conc_sub (ρ := ρ) (capC ρ s - k.toNat) hcc (fun e => by rw [e]; simp; exact fun h => .inl h) hkl
  refine ⟨_, ?_, .of (ok_sub o1' (by rw [hcc]; omega))⟩
  have hbnd : (Instr.sliceBounds true s.len (capC ρ s) (lo.map a.eval) (some (a.eval yb)) none).run P w = .ok (k.toNat, bb.toNat, capC ρ s) w := by
   have eb : (bb.toNat : Int) = bb := Int.toNat_of_nonneg (by omega)
   rcases hlo k hk h0 with ⟨rfl, rfl⟩ | ⟨y, kk, rfl, hy⟩
   ·simp [Instr.sliceBounds, hvb, run_sliceBound, show (0 : Int) <= bb by omega, hbc]
   ·simp [Instr.sliceBounds, hy, hvb, run_sliceBound, h0, h1, show (0 : Int) <= bb by omega, hbc, eb]
  have := run_cut (P := P) (w := w) ht hs (s.base.map (baseC ρ (capC ρ s) s.alt)) s.len (capC ρ s) (lo.map a.eval) (some (a.eval yb)) none _ _ _ hbnd
  simp only [execOp, hop, e1, conc, Option.map_none, Option.map_some, Sem.run_bind]
  rw [conc] at hcon
  rw [this, hcon, show k.toNat + (capC ρ s - k.toNat) = capC ρ s by omega, show bb.toNat - k.toNat = (bb - k).toNat by omega]
  rfl
 ·
  rename_i k kb bb km mm hk
  obtain ⟨yb, hyb, hvb⟩ : ∃ yb, hi = some yb /\ a.eval yb = .int kb bb := by
   rcases ehi with ⟨_, hc⟩ | ⟨yb, sb, e, hsb, hvb⟩
   ·cases hc
   ·cases hsb; exact ⟨yb, e, hvb.int_of⟩
  subst hyb
  obtain ⟨ym, hym, hvm⟩ : ∃ ym, mx = some ym /\ a.eval ym = .int km mm := by
   rcases emx with ⟨_, hc⟩ | ⟨ym, sm, e, hsm, hvm⟩
   ·cases hc
   ·cases hsm; exact ⟨ym, e, hvm.int_of⟩
  subst hym
  split at hz
  rotate_left
  ·cases hz
  rename_i hc
  obtain ⟨h0, h1, h4, h3, h2⟩ := hc
  simp only [Option.some.injEq] at hz
  subst hz
  have hbc := fits_le hr o1.2 h3
  have hkl : k.toNat <= capC ρ s := by omega
  have hcc : capC ρ (subSl sz s k.toNat (bb - k).toNat (some (mm - k).toNat)) = (mm - k).toNat := by
   generalize k.toNat = kk
   cases kk with
   | zero => simp [subSl, capC]
   | succ kk => cases hb : s.base <;> simp [subSl, capC, hb]
  have hcon := conc_sub (ρ := ρ) (mm - k).toNat hcc (fun e => ⟨fun hm => by
   rcases h2 with h | h
   ·omega
   ·exact .inr h, fun hm => by omega⟩) hkl
  refine ⟨_, ?_, .of (ok_sub o1' (by rw [hcc]; omega))⟩
  have hbnd : (Instr.sliceBounds true s.len (capC ρ s) (lo.map a.eval) (some (a.eval yb)) (some (a.eval ym))).run P w = .ok (k.toNat, bb.toNat, mm.toNat) w := by
   have eb : (bb.toNat : Int) = bb := Int.toNat_of_nonneg (by omega)
   have em : (mm.toNat : Int) = mm := Int.toNat_of_nonneg (by omega)
   rcases hlo k hk h0 with ⟨rfl, rfl⟩ | ⟨y, kk, rfl, hy⟩
   ·simp [Instr.sliceBounds, hvb, hvm, run_sliceBound, show (0 : Int) <= bb by omega, show (0 : Int) <= mm by omega, hbc, em, h4]
   ·simp [Instr.sliceBounds, hy, hvb, hvm, run_sliceBound, h0, h1, show (0 : Int) <= bb by omega, show (0 : Int) <= mm by omega, hbc, eb, em, h4]
  have := run_cut (P := P) (w := w) ht hs (s.base.map (baseC ρ (capC ρ s) s.alt)) s.len (capC ρ s) (lo.map a.eval) (some (a.eval yb)) (some (a.eval ym)) _ _ _ hbnd
  simp only [execOp, hop, e1, conc, Option.map_some, Sem.run_bind]
  rw [conc] at hcon
  rw [this, hcon, show k.toNat + (mm - k).toNat = mm.toNat by omega, show bb.toNat - k.toNat = (bb - k).toNat by omega, show mm.toNat - k.toNat = (mm - k).toNat by omega]
  rfl
 ·cases hz
theorem bytesOf_ok : ∀ (cs : List SV) (l : List UInt8), bytesOf cs = some l -> ∃ xs : List Int, cs = xs.map (SV.int .u8) /\ l = xs.map fun n => UInt8.ofNat n.toNat
 | [], l, hl => by simp [bytesOf] at hl; subst hl; exact ⟨[], rfl, rfl⟩
 | c :: cs, l, hl => by
  cases c with
  | int k n =>
   cases k <;> simp only [bytesOf, Option.map_eq_some_iff] at hl <;> (try cases hl)
   rename_i l' hl
   obtain ⟨h1, rfl⟩ := hl
   obtain ⟨xs, rfl, rfl⟩ := bytesOf_ok cs l' h1
   exact ⟨n :: xs, rfl, rfl⟩
  | _ => simp [bytesOf] at hl
theorem A_str {o : Oper} {s d e : TypeId} {x : Operand} {x' : Opd} (hop : o.op = .convert s d x) (hs : P.underlying s = some (.slice e)) (he : P.underlying e = some (.int .u8)) (hd : P.underlying d = some .string) (hx : opd h x = some x')
  (ht : TRel cx ρ lam h.isLoc h.derOf H w T a) (hr : HRel cx ρ H w) {z : SV} (hz : opR .str [x'.ev T] H = some z) : RunsTo P ρ H.size a w o z := by
 have ex := ev_opd ht hx
 generalize x'.ev T = sx at *
 cases sx <;> simp only [opR, Option.map_eq_some_iff, Option.bind_eq_some_iff] at hz <;> (try cases hz)
 rename_i sl l hz
 obtain ⟨⟨cs, hcs, hl⟩, rfl⟩ := hz
 obtain ⟨o1, e1⟩ := ex.ne (by simp)
 simp only [okSV] at o1
 obtain ⟨xs, rfl, rfl⟩ := bytesOf_ok cs l hl
 unfold Heap.elems at hcs
 cases hz0 : Nat.beq sl.len 0 with
 | true =>
  rw [hz0] at hcs
  simp only [cond_true, Option.some.injEq] at hcs
  have h0 := Nat.eq_of_beq_eq_true hz0
  have : xs = [] := by cases xs <;> simp at hcs; rfl
  subst this
  cases hb : sl.base with
  | none =>
   have hrun := run_convert_bytes_nil (P := P) w s e hs he sl.len (capC ρ sl) d hd
   exact ⟨.string ByteArray.empty, by simp [execOp, hop, e1, conc, hb, hrun], .inr ⟨by simp [okSV], by simp [conc, ByteArray.empty, ByteArray.emptyWithCapacity]; rfl⟩⟩
  | some p =>
   obtain ⟨r, off⟩ := p
   have hrun := run_convert_bytes_zero (P := P) w s e hs he (baseC ρ (capC ρ sl) sl.alt (r, off)) (capC ρ sl) d hd
   exact ⟨_, by simp [execOp, hop, e1, conc, hb, h0, hrun]; rfl, .inr ⟨by simp [okSV], by simp [conc, strOfNums]⟩⟩
 | false =>
 rw [hz0] at hcs
 simp only [cond_false] at hcs
 cases hb : sl.base with
 | none => simp [hb] at hcs
 | some p =>
  obtain ⟨r, off⟩ := p
  simp only [hb, Nat.mul_one] at hcs
  obtain ⟨h1, h2, h3, h4⟩ := read_ok hr hcs
  simp only [List.length_map] at h4
  by_cases h0 : sl.len = 0
  ·have : xs = [] := List.eq_nil_of_length_eq_zero (by omega)
   subst this
   have hrun := run_convert_bytes_zero (P := P) w s e hs he (baseC ρ (capC ρ sl) sl.alt (r, off)) (capC ρ sl) d hd
   exact ⟨_, by simp [execOp, hop, e1, conc, hb, h0, hrun]; rfl, .inr ⟨by simp [okSV], by simp [conc, strOfNums]⟩⟩
  ·have hcap : capC ρ sl ≠ 0 := by have := o1.2; omega
   have hrun := run_convert_bytes_arg (P := P) w s e hs he (ρ r).block ((ρ r).off + off) sl.len (capC ρ sl) xs h4 (fun i hi => by
    have := h1 i (.int .u8 (xs.getD i 0)) (by simp [List.getElem?_eq_getElem (show i < xs.length by omega), List.getD_eq_getElem?_getD])
    simpa [conc] using this) d hd
   exact ⟨_, by simp [execOp, hop, e1, conc, hb, baseC, hcap, addrOf, hrun]; rfl, .inr ⟨by simp [okSV], by simp [conc, strOfNums]⟩⟩
end
end Go.Sh
