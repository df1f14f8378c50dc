/- The other operations that turn no memory. -/
import Derived.Test.YtpdkfleleebdaaaGreatDoorSh6
set_option linter.unusedVariables false
set_option linter.unusedSimpArgs false
namespace Go.Sh
open Go
section
variable {P : Program} {h : Hints} {cx : Ctx} {ρ : Place} {lam : Nat -> Nat} {T : Tmps} {H : Heap} {a : Act} {w : World}
theorem run_loadAt {t : TypeId} {ag : Bool} {m n : Nat} {l : List SV} {y : SV} (b o : Nat) (ha : aggT P t = some ag) (hs : sizeT P t = some m) (hl : l.length = m)
  (hy : shaped ag l = some y) (hok : okL ρ n l) (hf : l.all SV.flat = true) (hc : ∀ (j : Nat) (v : SV), l[j]? = some v -> w.cell? ⟨b, o + j, none⟩ = some (conc ρ v)) :
  (Instr.loadAt t (.pointer (some ⟨b, o, none⟩))).run P w = .ok (conc ρ y) w /\ okSV ρ n y := by
 obtain ⟨k1, k2, k3⟩ := shaped_ok (ρ := ρ) (n := n) hy hok hf
 refine ⟨?_, k1⟩
 cases ag with
 | true =>
  have hcs := run_loadCells_list (P := P) w ⟨b, o, none⟩ (l.map (conc ρ)) (fun j v hj => by
   rw [Addr.add_lit]
   simp only [List.getElem?_map, Option.map_eq_some_iff] at hj
   obtain ⟨x, hx, rfl⟩ := hj
   exact hc j x hx)
  simp only [List.length_map, hl] at hcs
  simp only [if_true] at k2
  simp [Instr.loadAt, Instr.sureAddr, loadVar, run_isAgg ha, run_sizeT hs, hcs, k2]
 | false =>
  have e := k3 rfl
  have h0 := hc 0 y (by rw [e]; rfl)
  simp only [Nat.add_zero] at h0
  simp [Instr.loadAt, Instr.sureAddr, loadVar, run_isAgg ha, h0]
theorem A_one {o : Oper} {x : Operand} {y : Opd} (hr : TRel cx ρ lam h.isLoc h.derOf H w T a) (hy : opd h x = some y) (he : execOp a.eval o = pure (.value (a.eval x))) {z : SV} (hz : y.ev T = z) : RunsTo P ρ H.size a w o z := by
 subst hz
 exact ⟨_, by rw [he]; rfl, ev_opd hr hy⟩
theorem A_pick {o : Oper} {c x y : Operand} {c' x' y' : Opd} (hop : o.op = .pick c x y) (hc : opd h c = some c') (hx : opd h x = some x') (hy : opd h y = some y')
  (hr : TRel cx ρ lam h.isLoc h.derOf H w T a) {z : SV} (hz : opP .pick [c'.ev T, x'.ev T, y'.ev T] = some z) : RunsTo P ρ H.size a w o z := by
 have ec := ev_opd hr hc
 simp only [opP] at hz
 split at hz
 ·rename_i hb
  rw [hb] at ec
  simp at hz; subst hz
  have := (ec.ne (by simp)).2
  simp only [conc] at this
  exact ⟨_, by simp [execOp, hop, this, asBool], ev_opd hr hx⟩
 ·rename_i hb
  rw [hb] at ec
  simp at hz; subst hz
  have := (ec.ne (by simp)).2
  simp only [conc] at this
  exact ⟨_, by simp [execOp, hop, this, asBool], ev_opd hr hy⟩
 ·cases hz
theorem A_un {o : Oper} {op : UnOp} {t : TypeId} {x : Operand} {x' : Opd} (hop : o.op = .unOp op t x) (hx : opd h x = some x')
  (hr : TRel cx ρ lam h.isLoc h.derOf H w T a) {z : SV} (hz : opP (.un op) [x'.ev T] = some z) : RunsTo P ρ H.size a w o z := by
 have ex := ev_opd hr hx
 simp only [opP] at hz
 have jx : x'.ev T ≠ .junk := by intro e; rw [e] at hz; simp [unOp] at hz
 obtain ⟨h1, h2⟩ := unOp_ok (P := P) (w := w) (ρ := ρ) (n := H.size) hz
 exact ⟨_, by simp [execOp, hop, (ex.ne jx).2, h1], .of h2⟩
theorem A_ext {o : Oper} {i : Nat} {x : Operand} {x' : Opd} (hop : o.op = .extract x i) (hx : opd h x = some x')
  (hr : TRel cx ρ lam h.isLoc h.derOf H w T a) {z : SV} (hz : opP (.ext i) [x'.ev T] = some z) : RunsTo P ρ H.size a w o z := by
 have ex := ev_opd hr hx
 generalize x'.ev T = sx at *
 cases sx <;> simp [opP] at hz
 rename_i vs
 obtain ⟨o1, e1⟩ := ex.ne (by simp)
 simp only [listIdx] at hz
 simp only [okSV] at o1
 have hz' : okSV ρ H.size z := (okL_iff _ _ _).1 o1 z (List.mem_of_getElem? hz)
 exact ⟨conc ρ z, by simp [execOp, hop, e1, conc, concL_eq, Instr.extract, hz], .of hz'⟩
theorem A_conv {o : Oper} {s d : TypeId} {k k' : IntKind} {x : Operand} {x' : Opd} (hop : o.op = .convert s d x) (hs : P.underlying s = some (.int k')) (hd : P.underlying d = some (.int k)) (hx : opd h x = some x')
  (hr : TRel cx ρ lam h.isLoc h.derOf H w T a) {z : SV} (hz : opP (.conv k) [x'.ev T] = some z) : RunsTo P ρ H.size a w o z := by
 have ex := ev_opd hr hx
 generalize x'.ev T = sx at *
 cases sx <;> simp [opP, wrapB] at hz
 subst hz
 obtain ⟨o1, e1⟩ := ex.ne (by simp)
 exact ⟨.int k (k.wrap _), by simp [execOp, hop, e1, conc, convert, run_underlying hs, run_underlying hd, Conv.intToInt]; rfl, .inr ⟨by simp [okSV], by simp [conc]⟩⟩
theorem A_len {o : Oper} {t e : TypeId} {x : Operand} {x' : Opd} (hop : o.op = .call { callee := .builtin .len, args := #[x], argTypes := #[t] }) (ht : P.underlying t = some (.slice e)) (hx : opd h x = some x')
  (hr : TRel cx ρ lam h.isLoc h.derOf H w T a) {z : SV} (hz : opP .len [x'.ev T] = some z) : RunsTo P ρ H.size a w o z := by
 have ex := ev_opd hr hx
 generalize x'.ev T = sx at *
 cases sx <;> simp [opP] at hz
 subst hz
 obtain ⟨o1, e1⟩ := ex.ne (by simp)
 exact ⟨_, by simp [execOp, hop, e1, conc, resolve, invoke, builtin, Builtin.len_, run_underlying ht]; rfl, .inr ⟨by simp [okSV], by simp [conc, goInt]⟩⟩
theorem A_slen {o : Oper} {t : TypeId} {x : Operand} {x' : Opd} (hop : o.op = .call { callee := .builtin .len, args := #[x], argTypes := #[t] }) (ht : P.underlying t = some .string) (hx : opd h x = some x')
  (hr : TRel cx ρ lam h.isLoc h.derOf H w T a) {z : SV} (hz : opP .slen [x'.ev T] = some z) : RunsTo P ρ H.size a w o z := by
 have ex := ev_opd hr hx
 generalize x'.ev T = sx at *
 cases sx <;> simp [opP] at hz
 subst hz
 obtain ⟨o1, e1⟩ := ex.ne (by simp)
 exact ⟨_, by simp [execOp, hop, e1, conc, resolve, invoke, builtin, Builtin.len_, run_underlying ht]; rfl, .inr ⟨by simp [okSV], by simp [conc, goInt, ByteArray.size]⟩⟩
theorem add_place (ρ : Place) (p : Nat × Nat) (k : Nat) : (addrOf ρ p).add k = addrOf ρ (p.1, p.2 + k) := by
 simp [addrOf, Addr.add_lit, Nat.add_assoc]
theorem A_idx {o : Oper} {t e : TypeId} {m : Nat} {x i : Operand} {x' i' : Opd} (hop : o.op = .indexAddr t x i) (ht : P.underlying t = some (.slice e)) (hs : sizeT P e = some m)
  (hx : opd h x = some x') (hi : opd h i = some i') (hr : TRel cx ρ lam h.isLoc h.derOf H w T a) {z : SV} (hz : opP (.idx m) [x'.ev T, i'.ev T] = some z) : RunsTo P ρ H.size a w o z := by
 have ex := ev_opd hr hx
 have ei := ev_opd hr hi
 generalize x'.ev T = sx at *
 generalize i'.ev T = si at *
 cases sx <;> cases si <;> simp [opP] at hz
 rename_i s k n
 obtain ⟨hn, hz⟩ := hz
 obtain ⟨o1, e1⟩ := ex.ne (by simp)
 have e2 := ei.int_of
 cases hb : s.base with
 | none => simp [hb] at hz
 | some p =>
  simp [hb] at hz; subst hz
  simp only [okSV] at o1
  have hcap : capC ρ s ≠ 0 := by have := o1.2; omega
  refine ⟨conc ρ (.ptr (p.1, p.2 + n.toNat * m)), ?_, .of ?_⟩
  ·simp [execOp, hop, e1, e2, conc, Instr.indexAt, asIntOf, run_underlying ht, hb, hn, run_sizeT hs, add_place, baseC, hcap]
  ·simp only [okSV]
   exact o1.1 p hb
theorem A_pidx {o : Oper} {t e : TypeId} {m len : Nat} {x i : Operand} {sx : SV} {i' : Opd} (hop : o.op = .indexAddr t x i) (ht : P.underlying t = some (.array len e)) (hs : sizeT P e = some m)
  (ex : VR ρ H.size sx (a.eval x)) (hi : opd h i = some i') (hr : TRel cx ρ lam h.isLoc h.derOf H w T a) {z : SV} (hz : opP (.pidx len m) [sx, i'.ev T] = some z) : RunsTo P ρ H.size a w o z := by
 have ei := ev_opd hr hi
 generalize i'.ev T = si at *
 cases sx <;> cases si <;> simp [opP] at hz
 rename_i p k n
 obtain ⟨hn, hz⟩ := hz
 obtain ⟨o1, e1⟩ := ex.ne (by simp)
 have e2 := ei.int_of
 subst hz
 refine ⟨conc ρ (.ptr (p.1, p.2 + n.toNat * m)), ?_, .of ?_⟩
 ·simp [execOp, hop, e1, e2, conc, Instr.indexAt, Instr.sureAddr, asIntOf, run_underlying ht, hn, run_sizeT hs, add_place]
 ·simp only [okSV] at o1 ⊢
  exact o1
theorem run_fieldPlace {b : Addr} {f : Field} {m : Nat} (hs : sizeT P f.type = some m) (hm : m ≠ 0) : (fieldPlace b f).run P w = .ok (b.add f.offset) w := by
 simp [fieldPlace, run_sizeT hs, hm]
theorem A_fld {o : Oper} {s : TypeId} {fields : Array Field} {f : Nat} {fl : Field} {m : Nat} {x : Operand} {sx : SV} (hop : o.op = .fieldAddr s x f) (ht : P.underlying s = some (.struct fields)) (hf : fields[f]? = some fl)
  (hs : sizeT P fl.type = some m) (hm : m ≠ 0) (ex : VR ρ H.size sx (a.eval x)) {z : SV} (hz : opP (.fld fl.offset) [sx] = some z) : RunsTo P ρ H.size a w o z := by
 cases sx <;> simp [opP] at hz
 rename_i p
 subst hz
 obtain ⟨o1, e1⟩ := ex.ne (by simp)
 refine ⟨conc ρ (.ptr (p.1, p.2 + fl.offset)), ?_, .of ?_⟩
 ·simp [execOp, hop, e1, conc, Instr.fieldAt, Instr.sureAddr, run_underlying ht, hf, run_fieldPlace hs hm, add_place]
 ·simp only [okSV] at o1 ⊢
  exact o1
theorem A_fieldv {o : Oper} {s : TypeId} {fields : Array Field} {f : Nat} {fl : Field} {m : Nat} {ag : Bool} {x : Operand} {x' : Opd} (hop : o.op = .field s x f) (ht : P.underlying s = some (.struct fields)) (hf : fields[f]? = some fl)
  (hs : sizeT P fl.type = some m) (ha : aggT P fl.type = some ag) (hx : opd h x = some x') (hr : TRel cx ρ lam h.isLoc h.derOf H w T a) {z : SV} (hz : opP (.fieldv fl.offset m ag) [x'.ev T] = some z) : RunsTo P ρ H.size a w o z := by
 have ex := ev_opd hr hx
 generalize x'.ev T = sx at *
 cases sx <;> simp only [opP, Option.bind_eq_some_iff] at hz <;> (try cases hz)
 rename_i cs l hz
 obtain ⟨o1, e1⟩ := ex.ne (by simp)
 simp only [okSV] at o1
 obtain ⟨h1, h2⟩ := part_ok (P := P) (w := w) (ρ := ρ) (n := H.size) ha hs hz.1 hz.2 o1.1 o1.2
 exact ⟨_, by simp [execOp, hop, e1, conc, Instr.field, run_underlying ht, hf, asAgg, h1], .of h2⟩
theorem A_indexv {o : Oper} {t e : TypeId} {len m : Nat} {ag : Bool} {x i : Operand} {x' i' : Opd} (hop : o.op = .index t x i) (ht : P.underlying t = some (.array len e))
  (hs : sizeT P e = some m) (ha : aggT P e = some ag) (hx : opd h x = some x') (hi : opd h i = some i') (hr : TRel cx ρ lam h.isLoc h.derOf H w T a) {z : SV} (hz : opP (.indexv len m ag) [x'.ev T, i'.ev T] = some z) : RunsTo P ρ H.size a w o z := by
 have ex := ev_opd hr hx
 have ei := ev_opd hr hi
 generalize x'.ev T = sx at *
 generalize i'.ev T = si at *
 cases sx <;> cases si <;> simp only [opP] at hz <;> (try cases hz)
 rename_i cs k n
 split at hz
 ·rename_i hn
  simp only [Option.bind_eq_some_iff] at hz
  obtain ⟨l, hz1, hz2⟩ := hz
  obtain ⟨o1, e1⟩ := ex.ne (by simp)
  have e2 := ei.int_of
  simp only [okSV] at o1
  obtain ⟨h1, h2⟩ := part_ok (P := P) (w := w) (ρ := ρ) (n := H.size) ha hs hz1 hz2 o1.1 o1.2
  exact ⟨_, by simp [execOp, hop, e1, e2, conc, Instr.index, asIntOf, run_underlying ht, hn, run_sizeT hs, h1], .of h2⟩
 ·cases hz
theorem A_stridx {o : Oper} {t : TypeId} {x i : Operand} {x' i' : Opd} (hop : o.op = .index t x i) (ht : P.underlying t = some .string)
  (hx : opd h x = some x') (hi : opd h i = some i') (hr : TRel cx ρ lam h.isLoc h.derOf H w T a) {z : SV} (hz : opP .stridx [x'.ev T, i'.ev T] = some z) : RunsTo P ρ H.size a w o z := by
 have ex := ev_opd hr hx
 have ei := ev_opd hr hi
 generalize x'.ev T = sx at *
 generalize i'.ev T = si at *
 cases sx <;> cases si <;> simp [opP] at hz
 rename_i s k n
 obtain ⟨hn, hz⟩ := hz
 obtain ⟨o1, e1⟩ := ex.ne (by simp)
 have e2 := ei.int_of
 cases hb : s[n.toNat]? with
 | none => simp [hb] at hz
 | some b =>
  simp [hb] at hz; subst hz
  have hg : (ByteArray.mk s.toArray)[n.toNat]? = some b := by
   rw [<- hb]
   show (if hlt : n.toNat < (ByteArray.mk s.toArray).size then some (ByteArray.mk s.toArray)[n.toNat] else none) = _
   have hlt : n.toNat < s.length := (List.getElem?_eq_some_iff.1 hb).1
   have : n.toNat < (ByteArray.mk s.toArray).size := by simpa [ByteArray.size] using hlt
   simp [this, List.getElem?_eq_getElem hlt]
   rfl
  exact ⟨.int .u8 b.toNat, by simp [execOp, hop, e1, e2, conc, Instr.index, asIntOf, run_underlying ht, hn, hg], .inr ⟨by simp [okSV], by simp [conc]⟩⟩
theorem A_nilchk {o : Oper} {x : Operand} {x' : Opd} (hop : o.op = .nilCheck x) (hx : opd h x = some x')
  (hr : TRel cx ρ lam h.isLoc h.derOf H w T a) {z : SV} (hz : opP .nilchk [x'.ev T] = some z) : RunsTo P ρ H.size a w o z := by
 have ex := ev_opd hr hx
 generalize x'.ev T = sx at *
 cases sx <;> simp [opP] at hz <;> subst hz <;> obtain ⟨o1, e1⟩ := ex.ne (by simp)
 ·exact ⟨_, by simp [execOp, hop, e1, conc]; rfl, .inr ⟨o1, by simp [conc]⟩⟩
 ·exact ⟨_, by simp [execOp, hop, e1, conc]; rfl, .inr ⟨o1, by simp [conc]⟩⟩
theorem A_mkfn {o : Oper} {f : FuncId} {first captured : Array Operand} {xs : List Opd} (hop : o.op = .makeFunc (.func f) first captured) (hx : opds h (first.toList ++ captured.toList) = some xs)
  (hr : TRel cx ρ lam h.isLoc h.derOf H w T a) {z : SV} (hz : opP (.mkfn f first.size) (xs.map (·.ev T)) = some z) : RunsTo P ρ H.size a w o z := by
 have ex := ev_opds hr hx
 simp only [opP] at hz
 cases hg : (xs.map (·.ev T)).all SV.good with
 | false => rw [hg] at hz; simp at hz
 | true =>
  rw [hg] at hz
  simp only [cond_true, Option.some.injEq] at hz
  subst hz
  obtain ⟨o1, e1⟩ := ex.ok hg
  have o1' := (okL_iff _ _ _).1 o1
  have hlen : (xs.map (·.ev T)).length = first.size + captured.size := by rw [ex.length]; simp
  refine ⟨_, by simp [execOp, hop, Instr.makeFunc]; rfl, .inr ⟨?_, ?_⟩⟩
  ·simp only [okSV]
   exact ⟨(okL_iff _ _ _).2 fun v hv => o1' v (List.mem_of_mem_take hv), (okL_iff _ _ _).2 fun v hv => o1' v (List.mem_of_mem_drop hv)⟩
  ·simp only [conc]
   rw [concL_eq] at e1
   have h1 : first.toList.map a.eval = ((xs.map (·.ev T)).take first.size).map (conc ρ) := by
    rw [List.map_take, <- e1]; simp
   have h2 : captured.toList.map a.eval = ((xs.map (·.ev T)).drop first.size).map (conc ρ) := by
    rw [List.map_drop, <- e1]; simp
   rw [concL_eq, concL_eq, <- h1, <- h2]
   simp only [Value.func.injEq, true_and]
   exact ⟨Array.ext' (by simp), Array.ext' (by simp)⟩
end
end Go.Sh
