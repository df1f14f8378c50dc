/- The machine once more, its temporaries a map: the same answers. -/
import Derived.Test.YtpdkfleleebdaaaGreatDoorSh20
set_option linter.unusedVariables false
namespace Go.Sh
open Go
abbrev Env := Nat -> SV
def Opd.ev2 (e : Env) : Opd -> SV
 | .t n => e n
 | .c v => v
def set2 (e : Env) (d : Nat) (y : SV) : Env := fun n => bif Nat.beq n d then y else e n
def setD2 (e : Env) : Option Nat -> SV -> Env
 | some d, v => set2 e d v
 | none, _ => e
def clear2 (e : Env) : List Nat -> Env
 | [] => e
 | n :: l => clear2 (set2 e n .junk) l
def evs2 (e : Env) : List Opd -> List SV
 | [] => []
 | [a] => [a.ev2 e]
 | [a, b] => [a.ev2 e, b.ev2 e]
 | a :: b :: c :: l => a.ev2 e :: b.ev2 e :: c.ev2 e :: l.map (·.ev2 e)
def proj2 (e : Env) : List Nat -> List SV
 | [] => []
 | n :: l => e n :: proj2 e l
def hd1 : List SV -> SV
 | [] => .junk
 | v :: _ => v
def tl1 : List SV -> List SV
 | [] => []
 | _ :: vs => vs
def nth : Nat -> List SV -> SV
 | 0, vs => hd1 vs
 | n + 1, vs => nth n (tl1 vs)
def unproj2 : List Nat -> List SV -> Env
 | [], _ => fun _ => .junk
 | n :: l, vs => fun i => bif Nat.beq i n then hd1 vs else unproj2 l (tl1 vs) i
def args2 : List SV -> Nat -> Env
 | [], _ => fun _ => .junk
 | v :: l, n => fun i => bif Nat.beq i n then v else args2 l (n + 1) i
section
variable {R : Type}
def Op.run2 (call : CallF R) (o : Op) (e : Env) (H : Heap) (k : Env -> Heap -> Option R) : Option R :=
 match o.k with
 | .p pk => (opP pk (evs2 e o.args)).bind fun y => k (setD2 (clear2 e o.clr) o.dst y) H
 | .b bk => (opB bk (evs2 e o.args)).bind fun cs => k (setD2 (clear2 e o.clr) o.dst (.box cs)) H
 | .r rk => (opR rk (evs2 e o.args) H).bind fun y => k (setD2 (clear2 e o.clr) o.dst y) H
 | .e ek => (opE ek (evs2 e o.args) H).bind fun p => k (setD2 (clear2 e o.clr) o.dst p.1) p.2
 | .call f => call f (evs2 e o.args) H fun y H => k (setD2 (clear2 e o.clr) o.dst y) H
 | .callv => callV call (evs2 e o.args) H fun y H => k (setD2 (clear2 e o.clr) o.dst y) H
def Op.skip2 (o : Op) (e : Env) : Env := bif isSt o.k then e else setD2 e o.dst .undef
def Op.step2 (call : CallF R) (o : Op) (e : Env) (H : Heap) (k : Env -> Heap -> Option R) : Option R :=
 match o.guard with
 | none => o.run2 call e H k
 | some (g, want) => guardK (e g) (fun b =>
  bif boolEq b want then o.run2 call (set2 e g (.bool b)) H k else k (o.skip2 (set2 e g (.bool b))) H) (k (o.skip2 (set2 e g .undef)) H)
def runOps2 (call : CallF R) : List Op -> Env -> Heap -> (Env -> Heap -> Option R) -> Option R
 | [], e, H, k => k e H
 | o :: l, e, H, k => o.step2 call e H fun e H => runOps2 call l e H k
def Op.first2 (o : Op) (e : Env) : SV := match o.args with | x :: _ => x.ev2 e | [] => .undef
def runDraw2 (call : CallF R) (pairs : List (Nat × Nat)) : List Op -> Trace -> Env -> Heap -> (Env -> Heap -> Option R) -> Option R
 | [], tr, e, H, k => checkP tr.reverse (k e H) pairs
 | o :: l, tr, e, H, k => o.step2 call e H fun e' H' => runDraw2 call pairs l ((o.first2 e, H, H') :: tr) e' H' k
def exec2 (K : Nat) (call : CallF R) : CC -> Env -> Heap -> (kn : Env -> Heap -> Option R) -> (ke : Nat -> Env -> Heap -> Option R) -> (kr : Env -> Heap -> Option R) -> Option R
 | .skip, e, H, kn, _, _ => kn e H
 | .ret, e, H, _, _, kr => kr e H
 | .ops l, e, H, kn, _, _ => runOps2 call l e H kn
 | .draw l pairs, e, H, kn, _, _ => runDraw2 call pairs l [] e H kn
 | .seq a b, e, H, kn, ke, kr => exec2 K call a e H (fun e H => exec2 K call b e H kn ke kr) ke kr
 | .cond c a b, e, H, kn, ke, kr => condK (c.ev2 e) (exec2 K call a e H kn ke kr) (exec2 K call b e H kn ke kr)
 | .block id c, e, H, kn, ke, kr => exec2 K call c e H kn (fun i e H => bif Nat.beq i id then kn e H else ke i e H) kr
 | .loop live nt c, e, H, _, ke, kr => loopN (fun vs H k => exec2 K call c (unproj2 live vs) H (fun e' H' => k (proj2 e' live) H') ke kr) K (proj2 e live) H
 | .exit id, e, H, _, ke, _ => ke id e H
 | .scope c, e, H, kn, ke, kr => exec2 K call c e H kn ke kr
def resK2 (e : Env) : List Res -> (List SV -> Option R) -> Option R
 | [], k => k []
 | r :: l, k => (r.of (e r.slot)).bind fun v => resK2 e l fun vs => k (v :: vs)
end
def retK2 (res : List Res) (e : Env) (H : Heap) : Option (SV × Heap) := resK2 e res fun vs => some (oneOf vs, H)
def runFn2 (fn : Fn) (K : Nat) (C : CallC) (args : List SV) (H : Heap) : Option (SV × Heap) :=
 exec2 K (viaC C) fn.body (args2 args 0) H (retK2 fn.res) (fun _ _ _ => none) (retK2 fn.res)
def run2 (fns : Nat -> Option Fn) (K : Nat) : Nat -> CallC
 | 0, _, _, _ => none
 | d + 1, f, args, H =>
  match fns f with
  | none => none
  | some fn => bif Nat.beq args.length fn.nparams then runFn2 fn K (run2 fns K d) args H else none
def Opd.within (n : Nat) : Opd -> Bool
 | .t m => Nat.blt m n
 | .c _ => true
def Op.within (n : Nat) (o : Op) : Bool :=
 o.args.all (·.within n) && (match o.dst with | some d => Nat.blt d n | none => true) && o.clr.all (Nat.blt · n) && (match o.guard with | some (g, _) => Nat.blt g n | none => true)
def CC.within (n : Nat) : CC -> Bool
 | .skip => true
 | .ret => true
 | .ops l => l.all (·.within n)
 | .draw l _ => l.all (·.within n)
 | .seq a b => a.within n && b.within n
 | .cond c a b => c.within n && (a.within n && b.within n)
 | .block _ c => c.within n
 | .loop live nt c => Nat.beq nt n && live.all (Nat.blt · n) && c.within n
 | .exit _ => true
 | .scope c => c.within n
def Fn.within (fn : Fn) : Bool := fn.body.within fn.ntmps && Nat.ble fn.nparams fn.ntmps && fn.res.all fun r => Nat.blt r.slot fn.ntmps
structure Twin (n : Nat) (T : Tmps) (e : Env) : Prop where
 len : T.length = n
 get : ∀ i, i < n -> getT T i = e i
section
variable {n : Nat} {T : Tmps} {e : Env} {R : Type}
theorem Twin.set (h : Twin n T e) {d : Nat} (hd : d < n) (y : SV) : Twin n (T.set d y) (set2 e d y) := by
 refine ⟨by simp [h.len], fun i hi => ?_⟩
 unfold set2
 cases hb : Nat.beq i d with
 | true =>
  have := Nat.eq_of_beq_eq_true hb
  subst this
  have hl : i < T.length := by rw [h.len]; exact hi
  simp [getT, List.getD, hl]
 | false =>
  have hne : d ≠ i := fun he => by rw [he, Nat.beq_refl] at hb; cases hb
  rw [getT_set_ne hne, h.get i hi]
  rfl
theorem Twin.setD (h : Twin n T e) {d : Option Nat} (hd : (match d with | some d => Nat.blt d n | none => true) = true) (y : SV) : Twin n (setD T d y) (setD2 e d y) := by
 cases d with
 | none => exact h
 | some d => exact h.set (by simpa [Nat.blt_eq] using hd) y
theorem twin_clear : ∀ (l : List Nat) (T : Tmps) (e : Env), Twin n T e -> l.all (Nat.blt · n) = true -> Twin n (clear T l) (clear2 e l)
 | [], T, e, h, _ => h
 | d :: l, T, e, h, hl => by
  simp only [List.all_cons, Bool.and_eq_true] at hl
  exact twin_clear l _ _ (h.set (by simpa [Nat.blt_eq] using hl.1) _) hl.2
theorem Twin.ev (h : Twin n T e) {x : Opd} (hx : x.within n = true) : x.ev T = x.ev2 e := by
 cases x with
 | c v => rfl
 | t t => exact h.get t (by simpa [Opd.within, Nat.blt_eq] using hx)
theorem evs2_map (e : Env) (l : List Opd) : evs2 e l = l.map (·.ev2 e) := by
 unfold evs2
 split <;> rfl
theorem Twin.evs (h : Twin n T e) {l : List Opd} (hl : l.all (·.within n) = true) : l.map (·.ev T) = evs2 e l := by
 rw [evs2_map]
 apply List.map_congr_left
 intro x hx
 exact h.ev (List.all_eq_true.1 hl x hx)
theorem Twin.run (h : Twin n T e) {o : Op} (ho : o.within n = true) (call : CallF R) (H : Heap) {k : Tmps -> Heap -> Option R} {k2 : Env -> Heap -> Option R} (hk : ∀ T e H, Twin n T e -> k T H = k2 e H) (hcall : ∀ f xs H (k k2 : SV -> Heap -> Option R), (∀ y H, k y H = k2 y H) -> call f xs H k = call f xs H k2) :
  o.run call T H k = o.run2 call e H k2 := by
 simp only [Op.within, Bool.and_eq_true] at ho
 obtain ⟨⟨⟨h1, h2⟩, h3⟩, h4⟩ := ho
 have hs : ∀ y, Twin n (Go.Sh.setD (Go.Sh.clear T o.clr) o.dst y) (setD2 (clear2 e o.clr) o.dst y) := fun y => (twin_clear _ _ _ h h3).setD h2 y
 unfold Op.run Op.run2
 rw [h.evs h1]
 cases o.k with
 | p pk => simp only; congr 1; funext y; exact hk _ _ _ (hs _)
 | b bk => simp only; congr 1; funext y; exact hk _ _ _ (hs _)
 | r rk => simp only; congr 1; funext y; exact hk _ _ _ (hs _)
 | e ek => simp only; congr 1; funext y; exact hk _ _ _ (hs _)
 | call f => simp only; exact hcall _ _ _ _ _ fun y H => hk _ _ _ (hs _)
 | callv =>
  simp only
  unfold callV
  split
  ·exact hcall _ _ _ _ _ fun y H => hk _ _ _ (hs _)
  ·rfl
theorem Twin.skip (h : Twin n T e) {o : Op} (ho : o.within n = true) : Twin n (o.skipT T) (o.skip2 e) := by
 simp only [Op.within, Bool.and_eq_true] at ho
 unfold Op.skipT Op.skip2
 cases isSt o.k with
 | true => exact h
 | false => exact h.setD ho.1.1.2 _
theorem Twin.step (h : Twin n T e) {o : Op} (ho : o.within n = true) (call : CallF R) (H : Heap) {k : Tmps -> Heap -> Option R} {k2 : Env -> Heap -> Option R} (hk : ∀ T e H, Twin n T e -> k T H = k2 e H) (hcall : ∀ f xs H (k k2 : SV -> Heap -> Option R), (∀ y H, k y H = k2 y H) -> call f xs H k = call f xs H k2) :
  o.step call T H k = o.step2 call e H k2 := by
 unfold Op.step Op.step2
 have ho' := ho
 simp only [Op.within, Bool.and_eq_true] at ho'
 obtain ⟨_, h4⟩ := ho'
 cases hg : o.guard with
 | none => exact h.run ho call H hk hcall
 | some gw =>
  obtain ⟨g, want⟩ := gw
  rw [hg] at h4
  have hgn : g < n := by simpa [Nat.blt_eq] using h4
  simp only
  rw [h.get g hgn]
  congr 1
  ·funext b
   cases boolEq b want with
   | true => exact (h.set hgn _).run ho call H hk hcall
   | false => exact hk _ _ _ ((h.set hgn _).skip ho)
  ·exact hk _ _ _ ((h.set hgn _).skip ho)
theorem runOps_twin (call : CallF R) {k : Tmps -> Heap -> Option R} {k2 : Env -> Heap -> Option R} (hk : ∀ T e H, Twin n T e -> k T H = k2 e H) (hcall : ∀ f xs H (k k2 : SV -> Heap -> Option R), (∀ y H, k y H = k2 y H) -> call f xs H k = call f xs H k2) :
  ∀ (l : List Op) (T : Tmps) (e : Env) (H : Heap), Twin n T e -> l.all (·.within n) = true -> runOps call l T H k = runOps2 call l e H k2
 | [], T, e, H, h, _ => hk T e H h
 | o :: l, T, e, H, h, hl => by
  simp only [List.all_cons, Bool.and_eq_true] at hl
  exact h.step hl.1 call H (fun T e H h => runOps_twin call hk hcall l T e H h hl.2) hcall
theorem runDraw_twin (call : CallF R) (pairs : List (Nat × Nat)) {k : Tmps -> Heap -> Option R} {k2 : Env -> Heap -> Option R} (hk : ∀ T e H, Twin n T e -> k T H = k2 e H) (hcall : ∀ f xs H (k k2 : SV -> Heap -> Option R), (∀ y H, k y H = k2 y H) -> call f xs H k = call f xs H k2) :
  ∀ (l : List Op) (tr : Trace) (T : Tmps) (e : Env) (H : Heap), Twin n T e -> l.all (·.within n) = true -> runDraw call pairs l tr T H k = runDraw2 call pairs l tr e H k2
 | [], tr, T, e, H, h, _ => by simp only [runDraw, runDraw2]; rw [hk T e H h]
 | o :: l, tr, T, e, H, h, hl => by
  simp only [List.all_cons, Bool.and_eq_true] at hl
  have hf : o.first T = o.first2 e := by
   have := hl.1
   simp only [Op.within, Bool.and_eq_true] at this
   unfold Op.first Op.first2
   cases ha : o.args with
   | nil => rfl
   | cons x l =>
    rw [ha] at this
    simp only [List.all_cons, Bool.and_eq_true] at this
    exact h.ev this.1.1.1.1
  simp only [runDraw, runDraw2]
  exact h.step hl.1 call H (fun T' e' H' h' => by rw [hf]; exact runDraw_twin call pairs hk hcall l _ T' e' H' h' hl.2) hcall
theorem Twin.proj (h : Twin n T e) : ∀ {live : List Nat}, live.all (Nat.blt · n) = true -> Go.Sh.proj T live = proj2 e live
 | [], _ => rfl
 | t :: live, hl => by
  simp only [List.all_cons, Bool.and_eq_true] at hl
  simp only [Go.Sh.proj, proj2]
  rw [h.get t (by simpa [Nat.blt_eq] using hl.1), h.proj hl.2]
theorem unprojFrom_get2 (live : List Nat) (vs : List SV) : ∀ (m i t : Nat), t < m -> getT (unprojFrom live vs m i) t = (match placeOf live (i + t) with | some j => getT vs j | none => .junk)
 | 0, i, t, h => by omega
 | m + 1, i, t, h => by
  cases t with
  | zero =>
   simp only [unprojFrom, getT, Nat.add_zero, List.getD_cons_zero]
   cases placeOf live i <;> rfl
  | succ t =>
   have := unprojFrom_get2 live vs m (i + 1) t (by omega)
   simp only [unprojFrom, getT, List.getD_cons_succ] at this ⊢
   rw [this, show i + 1 + t = i + (t + 1) by omega]
theorem unproj2_get (i : Nat) : ∀ (live : List Nat) (vs : List SV), unproj2 live vs i = (match placeOf live i with | some j => getT vs j | none => .junk)
 | [], vs => rfl
 | t :: live, vs => by
  have ih := unproj2_get i live (tl1 vs)
  simp only [unproj2, placeOf]
  by_cases ht : t = i
  ·subst ht; cases vs <;> simp [getT, hd1]
  ·have h1 : Nat.beq t i = false := by cases hb : Nat.beq t i with | false => rfl | true => exact absurd (Nat.eq_of_beq_eq_true hb) ht
   have h2 : Nat.beq i t = false := by cases hb : Nat.beq i t with | false => rfl | true => exact absurd (Nat.eq_of_beq_eq_true hb).symm ht
   rw [h1, h2]
   simp only [cond_false, ih]
   cases placeOf live i <;> cases vs <;> simp [getT, tl1]
theorem twin_unproj (n : Nat) (live : List Nat) (vs : List SV) : Twin n (unproj n live vs) (unproj2 live vs) := by
 refine ⟨unprojFrom_len live vs n 0, fun i hi => ?_⟩
 rw [unproj2_get]
 have := unprojFrom_get2 live vs n 0 i hi
 simpa [unproj] using this
theorem exec_twin (K : Nat) (call : CallF R) (hcall : ∀ f xs H (k k2 : SV -> Heap -> Option R), (∀ y H, k y H = k2 y H) -> call f xs H k = call f xs H k2) :
  ∀ (c : CC) (T : Tmps) (e : Env) (H : Heap) (kn : Tmps -> Heap -> Option R) (ke : Nat -> Tmps -> Heap -> Option R) (kr : Tmps -> Heap -> Option R) (kn2 : Env -> Heap -> Option R) (ke2 : Nat -> Env -> Heap -> Option R) (kr2 : Env -> Heap -> Option R),
   c.within n = true -> Twin n T e -> (∀ T e H, Twin n T e -> kn T H = kn2 e H) -> (∀ i T e H, Twin n T e -> ke i T H = ke2 i e H) -> (∀ T e H, Twin n T e -> kr T H = kr2 e H) -> exec K call c T H kn ke kr = exec2 K call c e H kn2 ke2 kr2
 | .skip, T, e, H, kn, ke, kr, kn2, ke2, kr2, hc, h, h1, h2, h3 => h1 T e H h
 | .ret, T, e, H, kn, ke, kr, kn2, ke2, kr2, hc, h, h1, h2, h3 => h3 T e H h
 | .ops l, T, e, H, kn, ke, kr, kn2, ke2, kr2, hc, h, h1, h2, h3 => runOps_twin call h1 hcall l T e H h hc
 | .draw l ps, T, e, H, kn, ke, kr, kn2, ke2, kr2, hc, h, h1, h2, h3 => runDraw_twin call ps h1 hcall l [] T e H h hc
 | .seq a b, T, e, H, kn, ke, kr, kn2, ke2, kr2, hc, h, h1, h2, h3 => by
  simp only [CC.within, Bool.and_eq_true] at hc
  exact exec_twin K call hcall a T e H _ ke kr _ ke2 kr2 hc.1 h (fun T e H h => exec_twin K call hcall b T e H kn ke kr kn2 ke2 kr2 hc.2 h h1 h2 h3) h2 h3
 | .cond c a b, T, e, H, kn, ke, kr, kn2, ke2, kr2, hc, h, h1, h2, h3 => by
  simp only [CC.within, Bool.and_eq_true] at hc
  simp only [exec, exec2]
  rw [h.ev hc.1, exec_twin K call hcall a T e H kn ke kr kn2 ke2 kr2 hc.2.1 h h1 h2 h3, exec_twin K call hcall b T e H kn ke kr kn2 ke2 kr2 hc.2.2 h h1 h2 h3]
 | .block id c, T, e, H, kn, ke, kr, kn2, ke2, kr2, hc, h, h1, h2, h3 =>
  exec_twin K call hcall c T e H kn _ kr kn2 _ kr2 hc h h1 (fun i T e H h => by
   cases Nat.beq i id with
   | true => exact h1 T e H h
   | false => exact h2 i T e H h) h3
 | .loop live nt c, T, e, H, kn, ke, kr, kn2, ke2, kr2, hc, h, h1, h2, h3 => by
  simp only [CC.within, Bool.and_eq_true] at hc
  obtain ⟨⟨hn, hl⟩, hc⟩ := hc
  have hnt := Nat.eq_of_beq_eq_true hn
  simp only [exec, exec2]
  rw [h.proj hl, hnt]
  have key : ∀ m vs H, loopN (fun vs H k => exec K call c (unproj n live vs) H (fun T' H' => k (Go.Sh.proj T' live) H') ke kr) m vs H = loopN (fun vs H k => exec2 K call c (unproj2 live vs) H (fun e' H' => k (proj2 e' live) H') ke2 kr2) m vs H := by
   intro m
   induction m with
   | zero => intro vs H; rfl
   | succ m ih =>
    intro vs H
    simp only [loopN]
    exact exec_twin K call hcall c _ _ H _ ke kr _ ke2 kr2 hc (twin_unproj n live vs) (fun T e H h => by rw [h.proj hl]; exact ih _ _) h2 h3
  exact key K _ H
 | .exit id, T, e, H, kn, ke, kr, kn2, ke2, kr2, hc, h, h1, h2, h3 => h2 id T e H h
 | .scope c, T, e, H, kn, ke, kr, kn2, ke2, kr2, hc, h, h1, h2, h3 => exec_twin K call hcall c T e H kn ke kr kn2 ke2 kr2 hc h h1 h2 h3
theorem resK_twin (h : Twin n T e) : ∀ {l : List Res} {k : List SV -> Option R}, (l.all fun r => Nat.blt r.slot n) = true -> resK T l k = resK2 e l k
 | [], k, _ => rfl
 | r :: l, k, hl => by
  simp only [List.all_cons, Bool.and_eq_true] at hl
  simp only [resK, resK2]
  rw [h.get r.slot (by simpa [Nat.blt_eq] using hl.1)]
  congr 1
  funext v
  exact resK_twin h hl.2
theorem args2_get : ∀ (l : List SV) (m i : Nat), args2 l m (m + i) = getT l i
 | [], m, i => by simp [args2, getT]
 | v :: l, m, i => by
  simp only [args2]
  cases i with
  | zero => simp [getT]
  | succ i =>
   have h2 : Nat.beq (m + (i + 1)) m = false := by cases hb : Nat.beq (m + (i + 1)) m with | false => rfl | true => have := Nat.eq_of_beq_eq_true hb; omega
   rw [h2]
   have := args2_get l (m + 1) i
   simp only [cond_false, getT, List.getD_cons_succ] at this ⊢
   rw [<- this, show m + 1 + i = m + (i + 1) by omega]
theorem viaC_cong (C : CallC) : ∀ f xs H (k k2 : SV -> Heap -> Option R), (∀ y H, k y H = k2 y H) -> viaC C f xs H k = viaC C f xs H k2 := fun f xs H k k2 hk => by
 unfold viaC
 congr 1
 funext p
 exact hk _ _
theorem runFn_twin {fn : Fn} (hf : fn.within = true) (K : Nat) (C : CallC) {args : List SV} (hl : args.length = fn.nparams) (H : Heap) : runFn fn K C args H = runFn2 fn K C args H := by
 simp only [Fn.within, Bool.and_eq_true] at hf
 obtain ⟨⟨h1, h2⟩, h3⟩ := hf
 have hle := Nat.le_of_ble_eq_true h2
 have htw : Twin fn.ntmps (args ++ List.replicate (fn.ntmps - fn.nparams) .junk) (args2 args 0) := by
  refine ⟨by simp; omega, fun i hi => ?_⟩
  have := args2_get args 0 i
  rw [Nat.zero_add] at this
  rw [this]
  unfold getT
  simp only [List.getD_eq_getElem?_getD, List.getElem?_append]
  split
  ·rfl
  ·rename_i hge
   rw [List.getElem?_eq_none (l := args) (by omega), List.getElem?_replicate]
   split <;> rfl
 exact exec_twin K (viaC C) (viaC_cong C) fn.body _ _ H _ _ _ _ _ _ h1 htw (fun T e H h => resK_twin h h3) (fun _ _ _ _ _ => rfl) (fun T e H h => resK_twin h h3)
end
theorem within_all : ∀ {l : List (Nat × Fn)}, (l.all fun p => p.2.within) = true -> ∀ f cf, assoc l f = some cf -> cf.within = true
 | [], _, f, cf, h => by simp [assoc] at h
 | (k, c) :: l, hl, f, cf, h => by
  simp only [List.all_cons, Bool.and_eq_true] at hl
  simp only [assoc] at h
  cases hb : Nat.beq k f with
  | true => rw [hb] at h; simp only [cond_true, Option.some.injEq] at h; rw [<- h]; exact hl.1
  | false => rw [hb] at h; exact within_all hl.2 f cf h
end Go.Sh
