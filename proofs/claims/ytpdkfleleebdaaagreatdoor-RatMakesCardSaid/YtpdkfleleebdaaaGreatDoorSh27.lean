/- The machine with its temporaries a tree: the same answers. -/
import Derived.Test.YtpdkfleleebdaaaGreatDoorSh26
set_option linter.unusedVariables false
namespace Go.Sh
open Go
abbrev E3 := BT SV
noncomputable def gv (t : E3) : Nat -> SV := BT.rec (motive := fun _ => Nat -> SV) (fun _ => .junk)
 (fun v _ _ ihl ihr n => Nat.rec (motive := fun _ => SV) (Option.rec (motive := fun _ => SV) .junk (fun x => x) v)
  (fun m _ => Bool.rec (motive := fun _ => SV) (ihr (Nat.div m 2)) (ihl (Nat.div m 2)) (Nat.beq (Nat.mod m 2) 0)) n) t
noncomputable def stF (v : SV) (f : Nat) : E3 -> Nat -> E3 := Nat.rec (motive := fun _ => E3 -> Nat -> E3) (fun t _ => t)
 (fun _ ih t n => BT.rec (motive := fun _ => E3)
  (Nat.rec (motive := fun _ => E3) (.node (some v) .nil .nil) (fun m _ => Bool.rec (motive := fun _ => E3) (.node none .nil (ih .nil (Nat.div m 2))) (.node none (ih .nil (Nat.div m 2)) .nil) (Nat.beq (Nat.mod m 2) 0)) n)
  (fun x l r _ _ => Nat.rec (motive := fun _ => E3) (.node (some v) l r) (fun m _ => Bool.rec (motive := fun _ => E3) (.node x l (ih r (Nat.div m 2))) (.node x (ih l (Nat.div m 2)) r) (Nat.beq (Nat.mod m 2) 0)) n) t) f
noncomputable def st3 (t : E3) (n : Nat) (v : SV) : E3 := stF v (Nat.succ n) t n
theorem gv_eq : ∀ (t : E3) (n : Nat), gv t n = (t.get n).getD .junk
 | .nil, _ => rfl
 | .node v l r, 0 => by cases v <;> rfl
 | .node v l r, m + 1 => by
  show Bool.rec (motive := fun _ => SV) (gv r (m / 2)) (gv l (m / 2)) (Nat.beq (m % 2) 0) = _
  simp only [BT.get]
  cases Nat.beq (m % 2) 0 with
  | true => exact gv_eq l _
  | false => exact gv_eq r _
theorem stF_eq (v : SV) : ∀ (f : Nat) (t : E3) (n : Nat), stF v f t n = BT.setF v f t n
 | 0, t, n => rfl
 | f + 1, .nil, 0 => rfl
 | f + 1, .node x l r, 0 => rfl
 | f + 1, .nil, m + 1 => by
  show Bool.rec (motive := fun _ => E3) (.node none .nil (stF v f .nil (m / 2))) (.node none (stF v f .nil (m / 2)) .nil) (Nat.beq (m % 2) 0) = _
  simp only [BT.setF]
  cases Nat.beq (m % 2) 0 with
  | true => simp only [stF_eq v f]; rfl
  | false => simp only [stF_eq v f]; rfl
 | f + 1, .node x l r, m + 1 => by
  show Bool.rec (motive := fun _ => E3) (.node x l (stF v f r (m / 2))) (.node x (stF v f l (m / 2)) r) (Nat.beq (m % 2) 0) = _
  simp only [BT.setF]
  cases Nat.beq (m % 2) 0 with
  | true => simp only [stF_eq v f]; rfl
  | false => simp only [stF_eq v f]; rfl
theorem gv_st (t : E3) (n : Nat) (v : SV) (k : Nat) : gv (st3 t n v) k = bif Nat.beq k n then v else gv t k := by
 rw [gv_eq, st3, stF_eq]
 by_cases h : k = n
 ·subst h
  rw [BT.get_set_self _ _ _ _ (Nat.lt_succ_self _), Nat.beq_refl]
  rfl
 ·have hb : Nat.beq k n = false := by
   cases hc : Nat.beq k n with
   | false => rfl
   | true => exact absurd (Nat.eq_of_beq_eq_true hc) h
  rw [BT.get_set_ne _ _ _ _ _ (Ne.symm h), hb, gv_eq]
  rfl
noncomputable def Opd.ev3 (e : E3) : Opd -> SV
 | .t n => gv e n
 | .c v => v
noncomputable def setD3 (e : E3) : Option Nat -> SV -> E3
 | some d, v => st3 e d v
 | none, _ => e
noncomputable def clear3 (e : E3) : List Nat -> E3
 | [] => e
 | n :: l => clear3 (st3 e n .junk) l
noncomputable def evs3 (e : E3) : List Opd -> List SV
 | [] => []
 | [a] => [a.ev3 e]
 | [a, b] => [a.ev3 e, b.ev3 e]
 | a :: b :: c :: l => a.ev3 e :: b.ev3 e :: c.ev3 e :: l.map (·.ev3 e)
noncomputable def proj3 (e : E3) : List Nat -> List SV
 | [] => []
 | n :: l => gv e n :: proj3 e l
noncomputable def unproj3 : List Nat -> List SV -> E3
 | [], _ => .nil
 | n :: l, vs => st3 (unproj3 l (tl1 vs)) n (hd1 vs)
noncomputable def args3 : List SV -> Nat -> E3
 | [], _ => .nil
 | v :: l, n => st3 (args3 l (n + 1)) n v
section
variable {R : Type}
noncomputable def gvK (t : E3) : Nat -> (SV -> Option R) -> Option R := BT.rec (motive := fun _ => Nat -> (SV -> Option R) -> Option R) (fun _ k => k .junk)
 (fun v _ _ ihl ihr n k => Nat.rec (motive := fun _ => Option R) (Option.rec (motive := fun _ => Option R) (k .junk) (fun x => k x) v)
  (fun m _ => Bool.rec (motive := fun _ => Option R) (ihr (Nat.div m 2) k) (ihl (Nat.div m 2) k) (Nat.beq (Nat.mod m 2) 0)) n) t
theorem gvK_eq : ∀ (t : E3) (n : Nat) (k : SV -> Option R), gvK t n k = k (gv t n)
 | .nil, _, _ => rfl
 | .node v l r, 0, k => by cases v <;> rfl
 | .node v l r, m + 1, k => by
  show Bool.rec (motive := fun _ => Option R) (gvK r (m / 2) k) (gvK l (m / 2) k) (Nat.beq (m % 2) 0) = k (Bool.rec (motive := fun _ => SV) (gv r (m / 2)) (gv l (m / 2)) (Nat.beq (m % 2) 0))
  cases Nat.beq (m % 2) 0 with
  | true => exact gvK_eq l _ k
  | false => exact gvK_eq r _ k
noncomputable def stFK (v : SV) (f : Nat) : E3 -> Nat -> (E3 -> Option R) -> Option R := Nat.rec (motive := fun _ => E3 -> Nat -> (E3 -> Option R) -> Option R) (fun t _ k => k t)
 (fun _ ih t n k => BT.rec (motive := fun _ => Option R)
  (Nat.rec (motive := fun _ => Option R) (k (.node (some v) .nil .nil)) (fun m _ => Bool.rec (motive := fun _ => Option R) (ih .nil (Nat.div m 2) fun t' => k (.node none .nil t')) (ih .nil (Nat.div m 2) fun t' => k (.node none t' .nil)) (Nat.beq (Nat.mod m 2) 0)) n)
  (fun x l r _ _ => Nat.rec (motive := fun _ => Option R) (k (.node (some v) l r)) (fun m _ => Bool.rec (motive := fun _ => Option R) (ih r (Nat.div m 2) fun t' => k (.node x l t')) (ih l (Nat.div m 2) fun t' => k (.node x t' r)) (Nat.beq (Nat.mod m 2) 0)) n) t) f
theorem stFK_eq (v : SV) : ∀ (f : Nat) (t : E3) (n : Nat) (k : E3 -> Option R), stFK v f t n k = k (stF v f t n)
 | 0, t, n, k => rfl
 | f + 1, .nil, 0, k => rfl
 | f + 1, .node x l r, 0, k => rfl
 | f + 1, .nil, m + 1, k => by
  show Bool.rec (motive := fun _ => Option R) (stFK v f .nil (m / 2) fun t' => k (.node none .nil t')) (stFK v f .nil (m / 2) fun t' => k (.node none t' .nil)) (Nat.beq (m % 2) 0) = k (Bool.rec (motive := fun _ => E3) (.node none .nil (stF v f .nil (m / 2))) (.node none (stF v f .nil (m / 2)) .nil) (Nat.beq (m % 2) 0))
  cases Nat.beq (m % 2) 0 with
  | true => exact stFK_eq v f _ _ _
  | false => exact stFK_eq v f _ _ _
 | f + 1, .node x l r, m + 1, k => by
  show Bool.rec (motive := fun _ => Option R) (stFK v f r (m / 2) fun t' => k (.node x l t')) (stFK v f l (m / 2) fun t' => k (.node x t' r)) (Nat.beq (m % 2) 0) = k (Bool.rec (motive := fun _ => E3) (.node x l (stF v f r (m / 2))) (.node x (stF v f l (m / 2)) r) (Nat.beq (m % 2) 0))
  cases Nat.beq (m % 2) 0 with
  | true => exact stFK_eq v f _ _ _
  | false => exact stFK_eq v f _ _ _
noncomputable def stK (t : E3) (n : Nat) (v : SV) (k : E3 -> Option R) : Option R := stFK v (Nat.succ n) t n k
theorem stK_eq (t : E3) (n : Nat) (v : SV) (k : E3 -> Option R) : stK t n v k = k (st3 t n v) := stFK_eq v _ t n k
noncomputable def evK (e : E3) (x : Opd) (k : SV -> Option R) : Option R := Opd.rec (motive := fun _ => Option R) (fun n => gvK e n k) (fun v => k v) x
theorem evK_eq (e : E3) (x : Opd) (k : SV -> Option R) : evK e x k = k (x.ev3 e) := by
 cases x with
 | t n => exact gvK_eq e n k
 | c v => rfl
noncomputable def evsK (e : E3) (l : List Opd) : (List SV -> Option R) -> Option R := List.rec (motive := fun _ => (List SV -> Option R) -> Option R) (fun k => k []) (fun x _ ih k => evK e x fun v => ih fun vs => k (v :: vs)) l
theorem evsK_eq (e : E3) : ∀ (l : List Opd) (k : List SV -> Option R), evsK e l k = k (evs3 e l)
 | [], k => rfl
 | x :: l, k => by
  have ih := evsK_eq e l fun vs => k (x.ev3 e :: vs)
  show evK e x (fun v => evsK e l fun vs => k (v :: vs)) = _
  rw [evK_eq, ih]
  congr 1
  unfold evs3
  match l with
  | [] => rfl
  | [_] => rfl
  | [_, _] => rfl
  | _ :: _ :: _ :: _ => simp
noncomputable def setK (e : E3) (d : Option Nat) (v : SV) (k : E3 -> Option R) : Option R := Option.rec (motive := fun _ => Option R) (k e) (fun n => stK e n v k) d
theorem setK_eq (e : E3) (d : Option Nat) (v : SV) (k : E3 -> Option R) : setK e d v k = k (setD3 e d v) := by
 cases d with
 | none => rfl
 | some n => exact stK_eq e n v k
noncomputable def clrK (l : List Nat) : E3 -> (E3 -> Option R) -> Option R := List.rec (motive := fun _ => E3 -> (E3 -> Option R) -> Option R) (fun e k => k e) (fun n _ ih e k => stK e n .junk fun e => ih e k) l
theorem clrK_eq : ∀ (l : List Nat) (e : E3) (k : E3 -> Option R), clrK l e k = k (clear3 e l)
 | [], e, k => rfl
 | n :: l, e, k => by
  show stK e n .junk (fun e => clrK l e k) = _
  rw [stK_eq, clrK_eq l]
  rfl
noncomputable def prjK (e : E3) (l : List Nat) : (List SV -> Option R) -> Option R := List.rec (motive := fun _ => (List SV -> Option R) -> Option R) (fun k => k []) (fun n _ ih k => gvK e n fun v => ih fun vs => k (v :: vs)) l
theorem prjK_eq (e : E3) : ∀ (l : List Nat) (k : List SV -> Option R), prjK e l k = k (proj3 e l)
 | [], k => rfl
 | n :: l, k => by
  show gvK e n (fun v => prjK e l fun vs => k (v :: vs)) = _
  rw [gvK_eq, prjK_eq e l]
  rfl
noncomputable def unpK (l : List Nat) : List SV -> (E3 -> Option R) -> Option R := List.rec (motive := fun _ => List SV -> (E3 -> Option R) -> Option R) (fun _ k => k .nil) (fun n _ ih vs k => ih (tl1 vs) fun t => stK t n (hd1 vs) k) l
theorem unpK_eq : ∀ (l : List Nat) (vs : List SV) (k : E3 -> Option R), unpK l vs k = k (unproj3 l vs)
 | [], vs, k => rfl
 | n :: l, vs, k => by
  show unpK l (tl1 vs) (fun t => stK t n (hd1 vs) k) = _
  rw [unpK_eq l, stK_eq]
  rfl
noncomputable def agsK (l : List SV) : Nat -> (E3 -> Option R) -> Option R := List.rec (motive := fun _ => Nat -> (E3 -> Option R) -> Option R) (fun _ k => k .nil) (fun v _ ih n k => ih (Nat.succ n) fun t => stK t n v k) l
theorem agsK_eq : ∀ (l : List SV) (n : Nat) (k : E3 -> Option R), agsK l n k = k (args3 l n)
 | [], n, k => rfl
 | v :: l, n, k => by
  show agsK l (n + 1) (fun t => stK t n v k) = _
  rw [agsK_eq l, stK_eq]
  rfl
noncomputable def bndR {α : Type} (k : α -> Option R) (x : Option α) : Option R := Option.rec (motive := fun _ => Option R) none (fun a => k a) x
theorem bndR_eq {α : Type} (k : α -> Option R) (x : Option α) : bndR k x = x.bind k := by cases x <;> rfl
noncomputable def finK (o : Op) (e : E3) (y : SV) (k : E3 -> Option R) : Option R := clrK o.clr e fun e => setK e o.dst y k
theorem finK_eq (o : Op) (e : E3) (y : SV) (k : E3 -> Option R) : finK o e y k = k (setD3 (clear3 e o.clr) o.dst y) := by simp only [finK, clrK_eq, setK_eq]
noncomputable def Op.run3 (call : CallF R) (o : Op) (e : E3) (H : Heap) (k : E3 -> Heap -> Option R) : Option R :=
 evsK e o.args fun xs =>
 match o.k with
 | .p pk => bndR (fun y => finK o e y fun e => k e H) (opP pk xs)
 | .b bk => bndR (fun cs => finK o e (.box cs) fun e => k e H) (opB bk xs)
 | .r rk => bndR (fun y => finK o e y fun e => k e H) (opR rk xs H)
 | .e ek => bndR (fun p => finK o e p.1 fun e => k e p.2) (opE ek xs H)
 | .call f => call f xs H fun y H => finK o e y fun e => k e H
 | .callv => callV call xs H fun y H => finK o e y fun e => k e H
noncomputable def skpK (o : Op) (e : E3) (k : E3 -> Option R) : Option R := Bool.rec (motive := fun _ => Option R) (setK e o.dst .undef k) (k e) (isSt o.k)
noncomputable def Op.step3 (call : CallF R) (o : Op) (e : E3) (H : Heap) (k : E3 -> Heap -> Option R) : Option R :=
 match o.guard with
 | none => o.run3 call e H k
 | some (g, want) => gvK e g fun v => guardK v (fun b =>
  stK e g (.bool b) fun e => bif boolEq b want then o.run3 call e H k else skpK o e fun e => k e H) (stK e g .undef fun e => skpK o e fun e => k e H)
noncomputable def runOps3 (call : CallF R) : List Op -> E3 -> Heap -> (E3 -> Heap -> Option R) -> Option R
 | [], e, H, k => k e H
 | o :: l, e, H, k => o.step3 call e H fun e H => runOps3 call l e H k
noncomputable def fstK (o : Op) (e : E3) (k : SV -> Option R) : Option R := List.rec (motive := fun _ => Option R) (k .undef) (fun x _ _ => evK e x k) o.args
theorem fstK_eq (o : Op) (e : E3) (k : SV -> Option R) : fstK o e k = k (match o.args with | x :: _ => x.ev3 e | [] => .undef) := by
 unfold fstK
 cases o.args with
 | nil => rfl
 | cons x l => exact evK_eq e x k
noncomputable def runDraw3 (call : CallF R) (pairs : List (Nat × Nat)) : List Op -> Trace -> E3 -> Heap -> (E3 -> Heap -> Option R) -> Option R
 | [], tr, e, H, k => checkP tr.reverse (k e H) pairs
 | o :: l, tr, e, H, k => fstK o e fun x => o.step3 call e H fun e' H' => runDraw3 call pairs l ((x, H, H') :: tr) e' H' k
noncomputable def exec3 (K : Nat) (call : CallF R) : CC -> E3 -> Heap -> (kn : E3 -> Heap -> Option R) -> (ke : Nat -> E3 -> Heap -> Option R) -> (kr : E3 -> Heap -> Option R) -> Option R
 | .skip, e, H, kn, _, _ => kn e H
 | .ret, e, H, _, _, kr => kr e H
 | .ops l, e, H, kn, _, _ => runOps3 call l e H kn
 | .draw l pairs, e, H, kn, _, _ => runDraw3 call pairs l [] e H kn
 | .seq a b, e, H, kn, ke, kr => exec3 K call a e H (fun e H => exec3 K call b e H kn ke kr) ke kr
 | .cond c a b, e, H, kn, ke, kr => evK e c fun v => condK v (exec3 K call a e H kn ke kr) (exec3 K call b e H kn ke kr)
 | .block id c, e, H, kn, ke, kr => exec3 K call c e H kn (fun i e H => bif Nat.beq i id then kn e H else ke i e H) kr
 | .loop live nt c, e, H, _, ke, kr => prjK e live fun vs => loopN (fun vs H k => unpK live vs fun e => exec3 K call c e H (fun e' H' => prjK e' live fun vs => k vs H') ke kr) K vs H
 | .exit id, e, H, _, ke, _ => ke id e H
 | .scope c, e, H, kn, ke, kr => exec3 K call c e H kn ke kr
noncomputable def resK3 (e : E3) : List Res -> (List SV -> Option R) -> Option R
 | [], k => k []
 | r :: l, k => gvK e r.slot fun x => bndR (fun v => resK3 e l fun vs => k (v :: vs)) (r.of x)
end
noncomputable def retK3 (res : List Res) (e : E3) (H : Heap) : Option (SV × Heap) := resK3 e res fun vs => some (oneOf vs, H)
noncomputable def runFn3 (fn : Fn) (K : Nat) (C : CallC) (args : List SV) (H : Heap) : Option (SV × Heap) :=
 agsK args 0 fun e => exec3 K (viaC C) fn.body e H (retK3 fn.res) (fun _ _ _ => none) (retK3 fn.res)
def Tw (e : Env) (t : E3) : Prop := ∀ n, e n = gv t n
section
variable {e : Env} {t : E3} {R : Type}
theorem Tw.set (h : Tw e t) (d : Nat) (y : SV) : Tw (set2 e d y) (st3 t d y) := fun n => by
 rw [gv_st]
 unfold set2
 rw [h n]
theorem Tw.setD (h : Tw e t) (d : Option Nat) (y : SV) : Tw (setD2 e d y) (setD3 t d y) := by
 cases d with
 | none => exact h
 | some d => exact h.set d y
theorem Tw.clear : ∀ (l : List Nat) {e : Env} {t : E3}, Tw e t -> Tw (clear2 e l) (clear3 t l)
 | [], _, _, h => h
 | d :: l, _, _, h => Tw.clear l (h.set d _)
theorem Tw.ev (h : Tw e t) (x : Opd) : x.ev2 e = x.ev3 t := by
 cases x with
 | c v => rfl
 | t n => exact h n
theorem Tw.evs (h : Tw e t) (l : List Opd) : evs2 e l = evs3 t l := by
 unfold evs2 evs3
 split
 ·rfl
 ·simp only [h.ev]
 ·simp only [h.ev]
 ·simp only [h.ev]
abbrev SameK (k : Env -> Heap -> Option R) (k3 : E3 -> Heap -> Option R) : Prop := ∀ e t H, Tw e t -> k e H = k3 t H
theorem Tw.run (h : Tw e t) (o : Op) (call : CallF R) (hcall : ∀ f xs H (k k2 : SV -> Heap -> Option R), (∀ y H, k y H = k2 y H) -> call f xs H k = call f xs H k2) (H : Heap) {k : Env -> Heap -> Option R} {k3 : E3 -> Heap -> Option R} (hk : SameK k k3) :
  o.run2 call e H k = o.run3 call t H k3 := by
 have hs : ∀ y, Tw (setD2 (clear2 e o.clr) o.dst y) (setD3 (clear3 t o.clr) o.dst y) := fun y => (Tw.clear _ h).setD _ y
 unfold Op.run2 Op.run3
 rw [h.evs, evsK_eq]
 cases o.k with
 | p pk => simp only [finK_eq, bndR_eq]; congr 1; funext y; exact hk _ _ _ (hs _)
 | b bk => simp only [finK_eq, bndR_eq]; congr 1; funext y; exact hk _ _ _ (hs _)
 | r rk => simp only [finK_eq, bndR_eq]; congr 1; funext y; exact hk _ _ _ (hs _)
 | e ek => simp only [finK_eq, bndR_eq]; congr 1; funext y; exact hk _ _ _ (hs _)
 | call f => simp only [finK_eq]; exact hcall _ _ _ _ _ fun y H => hk _ _ _ (hs _)
 | callv =>
  simp only [finK_eq]
  unfold callV
  split
  ·exact hcall _ _ _ _ _ fun y H => hk _ _ _ (hs _)
  ·rfl
theorem Tw.step (h : Tw e t) (o : Op) (call : CallF R) (hcall : ∀ f xs H (k k2 : SV -> Heap -> Option R), (∀ y H, k y H = k2 y H) -> call f xs H k = call f xs H k2) (H : Heap) {k : Env -> Heap -> Option R} {k3 : E3 -> Heap -> Option R} (hk : SameK k k3) :
  o.step2 call e H k = o.step3 call t H k3 := by
 unfold Op.step2 Op.step3
 cases o.guard with
 | none => exact h.run o call hcall H hk
 | some gw =>
  obtain ⟨g, want⟩ := gw
  simp only [gvK_eq, stK_eq]
  rw [h g]
  have hsk : ∀ y, k (o.skip2 (set2 e g y)) H = skpK o (st3 t g y) fun e => k3 e H := fun y => by
   unfold Op.skip2 skpK
   simp only [setK_eq]
   cases isSt o.k with
   | true => exact hk _ _ _ (h.set g _)
   | false => exact hk _ _ _ ((h.set g _).setD _ _)
  congr 1
  ·funext b
   cases boolEq b want with
   | true => exact (h.set g _).run o call hcall H hk
   | false => exact hsk _
  ·exact hsk _
theorem runOps_tw (call : CallF R) (hcall : ∀ f xs H (k k2 : SV -> Heap -> Option R), (∀ y H, k y H = k2 y H) -> call f xs H k = call f xs H k2) {k : Env -> Heap -> Option R} {k3 : E3 -> Heap -> Option R} (hk : SameK k k3) :
  ∀ (l : List Op) (e : Env) (t : E3) (H : Heap), Tw e t -> runOps2 call l e H k = runOps3 call l t H k3
 | [], e, t, H, h => hk _ _ _ h
 | o :: l, e, t, H, h => h.step o call hcall H fun e t H h => runOps_tw call hcall hk l e t H h
theorem runDraw_tw (call : CallF R) (hcall : ∀ f xs H (k k2 : SV -> Heap -> Option R), (∀ y H, k y H = k2 y H) -> call f xs H k = call f xs H k2) (pairs : List (Nat × Nat)) {k : Env -> Heap -> Option R} {k3 : E3 -> Heap -> Option R} (hk : SameK k k3) :
  ∀ (l : List Op) (tr : Trace) (e : Env) (t : E3) (H : Heap), Tw e t -> runDraw2 call pairs l tr e H k = runDraw3 call pairs l tr t H k3
 | [], tr, e, t, H, h => by simp only [runDraw2, runDraw3]; rw [hk e t H h]
 | o :: l, tr, e, t, H, h => by
  have hf : o.first2 e = (match o.args with | x :: _ => x.ev3 t | [] => .undef) := by
   unfold Op.first2
   cases o.args with
   | nil => rfl
   | cons x l => exact h.ev x
  simp only [runDraw2, runDraw3, fstK_eq]
  exact h.step o call hcall H fun e' t' H' h' => by rw [hf]; exact runDraw_tw call hcall pairs hk l _ e' t' H' h'
theorem Tw.proj (h : Tw e t) : ∀ (live : List Nat), proj2 e live = proj3 t live
 | [] => rfl
 | n :: l => by simp only [proj2, proj3, h n, h.proj l]
theorem tw_unproj : ∀ (live : List Nat) (vs : List SV), Tw (unproj2 live vs) (unproj3 live vs)
 | [], vs => fun n => rfl
 | n :: l, vs => fun i => by
  have := tw_unproj l (tl1 vs) i
  simp only [unproj3, gv_st, unproj2, this]
theorem tw_args : ∀ (l : List SV) (n : Nat), Tw (args2 l n) (args3 l n)
 | [], n => fun _ => rfl
 | v :: l, n => fun i => by
  have := tw_args l (n + 1) i
  simp only [args3, gv_st, args2, this]
theorem exec_tw (K : Nat) (call : CallF R) (hcall : ∀ f xs H (k k2 : SV -> Heap -> Option R), (∀ y H, k y H = k2 y H) -> call f xs H k = call f xs H k2) :
  ∀ (c : CC) (e : Env) (t : E3) (H : Heap) (kn : Env -> Heap -> Option R) (ke : Nat -> Env -> Heap -> Option R) (kr : Env -> Heap -> Option R) (kn3 : E3 -> Heap -> Option R) (ke3 : Nat -> E3 -> Heap -> Option R) (kr3 : E3 -> Heap -> Option R),
   Tw e t -> SameK kn kn3 -> (∀ i, SameK (ke i) (ke3 i)) -> SameK kr kr3 -> exec2 K call c e H kn ke kr = exec3 K call c t H kn3 ke3 kr3
 | .skip, e, t, H, kn, ke, kr, kn3, ke3, kr3, h, h1, h2, h3 => h1 _ _ _ h
 | .ret, e, t, H, kn, ke, kr, kn3, ke3, kr3, h, h1, h2, h3 => h3 _ _ _ h
 | .ops l, e, t, H, kn, ke, kr, kn3, ke3, kr3, h, h1, h2, h3 => runOps_tw call hcall h1 l e t H h
 | .draw l ps, e, t, H, kn, ke, kr, kn3, ke3, kr3, h, h1, h2, h3 => runDraw_tw call hcall ps h1 l [] e t H h
 | .seq a b, e, t, H, kn, ke, kr, kn3, ke3, kr3, h, h1, h2, h3 => exec_tw K call hcall a e t H _ ke kr _ ke3 kr3 h (fun e t H h => exec_tw K call hcall b e t H kn ke kr kn3 ke3 kr3 h h1 h2 h3) h2 h3
 | .cond c a b, e, t, H, kn, ke, kr, kn3, ke3, kr3, h, h1, h2, h3 => by
  simp only [exec2, exec3, evK_eq]
  rw [h.ev c, exec_tw K call hcall a e t H kn ke kr kn3 ke3 kr3 h h1 h2 h3, exec_tw K call hcall b e t H kn ke kr kn3 ke3 kr3 h h1 h2 h3]
 | .block id c, e, t, H, kn, ke, kr, kn3, ke3, kr3, h, h1, h2, h3 =>
  exec_tw K call hcall c e t H kn _ kr kn3 _ kr3 h h1 (fun i e t H h => by
   cases Nat.beq i id with
   | true => exact h1 _ _ _ h
   | false => exact h2 i _ _ _ h) h3
 | .loop live nt c, e, t, H, kn, ke, kr, kn3, ke3, kr3, h, h1, h2, h3 => by
  simp only [exec2, exec3, prjK_eq, unpK_eq]
  rw [h.proj live]
  have key : ∀ m vs H, loopN (fun vs H k => exec2 K call c (unproj2 live vs) H (fun e' H' => k (proj2 e' live) H') ke kr) m vs H = loopN (fun vs H k => exec3 K call c (unproj3 live vs) H (fun t' H' => k (proj3 t' live) H') ke3 kr3) m vs H := by
   intro m
   induction m with
   | zero => intro vs H; rfl
   | succ m ih =>
    intro vs H
    simp only [loopN]
    exact exec_tw K call hcall c _ _ H _ ke kr _ ke3 kr3 (tw_unproj live vs) (fun e t H h => by rw [h.proj live]; exact ih _ _) h2 h3
  exact key K _ H
 | .exit id, e, t, H, kn, ke, kr, kn3, ke3, kr3, h, h1, h2, h3 => h2 id _ _ _ h
 | .scope c, e, t, H, kn, ke, kr, kn3, ke3, kr3, h, h1, h2, h3 => exec_tw K call hcall c e t H kn ke kr kn3 ke3 kr3 h h1 h2 h3
theorem resK_tw (h : Tw e t) : ∀ (l : List Res) (k : List SV -> Option R), resK2 e l k = resK3 t l k
 | [], k => rfl
 | r :: l, k => by
  simp only [resK2, resK3, gvK_eq, bndR_eq]
  rw [h r.slot]
  congr 1
  funext v
  exact resK_tw h l _
end
noncomputable def slowR : Ops := { slow with
 pick := fun c x y k => bndR k (opP .pick [c, x, y])
 add := fun x y k => bndR k (opP (.bin .add) [x, y])
 sub := fun x y k => bndR k (opP (.bin .sub) [x, y])
 mul := fun x y k => bndR k (opP (.bin .mul) [x, y])
 quo := fun x y k => bndR k (opP (.bin .quo) [x, y])
 rem := fun x y k => bndR k (opP (.bin .rem) [x, y])
 eql := fun x y k => bndR k (opP (.bin .eql) [x, y])
 neq := fun x y k => bndR k (opP (.bin .neq) [x, y])
 lss := fun x y k => bndR k (opP (.bin .lss) [x, y])
 leq := fun x y k => bndR k (opP (.bin .leq) [x, y])
 gtr := fun x y k => bndR k (opP (.bin .gtr) [x, y])
 geq := fun x y k => bndR k (opP (.bin .geq) [x, y])
 shl := fun x y k => bndR k (opP (.bin .shl) [x, y])
 shr := fun x y k => bndR k (opP (.bin .shr) [x, y])
 and := fun x y k => bndR k (opP (.bin .and) [x, y])
 or := fun x y k => bndR k (opP (.bin .or) [x, y])
 xor := fun x y k => bndR k (opP (.bin .xor) [x, y])
 andNot := fun x y k => bndR k (opP (.bin .andNot) [x, y])
 b_eql := fun x y k => bndR k (opP (.binB .eql) [x, y])
 b_neq := fun x y k => bndR k (opP (.binB .neq) [x, y])
 s_eql := fun x y k => bndR k (opP (.binS .eql) [x, y])
 s_neq := fun x y k => bndR k (opP (.binS .neq) [x, y])
 u_neg := fun x k => bndR k (opP (.un .neg) [x])
 u_xor := fun x k => bndR k (opP (.un .xor) [x])
 u_not := fun x k => bndR k (opP (.un .not) [x])
 conv := fun kd x k => bndR k (opP (.conv kd) [x])
 len := fun x k => bndR k (opP .len [x])
 slen := fun x k => bndR k (opP .slen [x])
 ext := fun i x k => bndR k (opP (.ext i) [x])
 idx := fun sz x i k => bndR k (opP (.idx sz) [x, i])
 pidx := fun n sz x i k => bndR k (opP (.pidx n sz) [x, i])
 fld := fun off x k => bndR k (opP (.fld off) [x])
 fieldv := fun off n ag x k => bndR k (opP (.fieldv off n ag) [x])
 indexv := fun n sz ag x i k => bndR k (opP (.indexv n sz ag) [x, i])
 build := fun z ps xs k => bndR k (opP (.build z ps) xs)
 stridx := fun x i k => bndR k (opP .stridx [x, i])
 strcut11 := fun x a b k => bndR k (opP (.strcut true true) [x, a, b])
 strcut10 := fun x a k => bndR k (opP (.strcut true false) [x, a])
 strcut01 := fun x b k => bndR k (opP (.strcut false true) [x, b])
 mkfn := fun f n xs k => bndR k (opP (.mkfn f n) xs)
 max := fun xs k => bndR k (opP .max xs)
 min := fun xs k => bndR k (opP .min xs)
 lload := fun off n ag x k => bndR k (opP (.lload off n ag) [x])
 lloadp := fun n ag b x k => bndR k (opP (.lloadp n ag) [b, x])
 lfld := fun off x k => bndR k (opP (.lfld off) [x])
 lfldp := fun off x k => bndR k (opP (.lfldp off) [x])
 lidx := fun n sz x i k => bndR k (opP (.lidx n sz) [x, i])
 lidxp := fun n sz x i k => bndR k (opP (.lidxp n sz) [x, i])
 nilchk := fun x k => bndR k (opP .nilchk [x])
 bbox := fun x k => bndR k (opB .box [x])
 bstore := fun off n b x k => bndR k (opB (.store off n) [b, x])
 bstorep := fun n b p x k => bndR k (opB (.storep n) [b, p, x])
 load := fun n ag p H k => bndR k (opR (.load n ag) [p] H)
 slice000 := fun sz s H k => bndR k (opR (.slice sz false false false) [s] H)
 slice100 := fun sz s a H k => bndR k (opR (.slice sz true false false) [s, a] H)
 slice010 := fun sz s b H k => bndR k (opR (.slice sz false true false) [s, b] H)
 slice110 := fun sz s a b H k => bndR k (opR (.slice sz true true false) [s, a, b] H)
 slice011 := fun sz s b c H k => bndR k (opR (.slice sz false true true) [s, b, c] H)
 slice111 := fun sz s a b c H k => bndR k (opR (.slice sz true true true) [s, a, b, c] H)
 str := fun s H k => bndR k (opR .str [s] H)
 store := fun n p x H k => bndR (fun q => k q.2) (opE (.store n) [p, x] H)
 append := fun sz by_ s x H k => bndR (fun q => k q.1 q.2) (opE (.append sz by_) [s, x] H)
 appendStr := fun by_ s x H k => bndR (fun q => k q.1 q.2) (opE (.appendStr by_) [s, x] H)
 copy := fun sz s x H k => bndR (fun q => k q.1 q.2) (opE (.copy sz) [s, x] H)
 hbuild := fun sz z ps xs H k => bndR (fun q => k q.1 q.2) (opE (.build sz z ps) xs H)
 make := fun sz by_ z l c H k => bndR (fun q => k q.1 q.2) (opE (.make sz by_ z) [l, c] H)
 alloc := fun z H k => bndR (fun q => k q.1 q.2) (opE (.alloc z) [] H)
 box := fun x H k => bndR (fun q => k q.1 q.2) (opE .box [x] H)
 rest := fun x k => bndR k ((Res.t 0).of x)
 resc := fun n ag x k => bndR k ((Res.cell 0 n ag).of x) }
theorem slowR_eq : slowR = slow := by
 unfold slowR
 simp only [bndR_eq]
 rfl
theorem runFn_tw (fn : Fn) (K : Nat) (C : CallC) (xs : List SV) (H : Heap) : runFn2 fn K C xs H = runFn3 fn K C xs H := by
 unfold runFn3
 rw [agsK_eq]
 exact exec_tw K (viaC C) (viaC_cong C) fn.body _ _ H _ _ _ _ _ _ (tw_args xs 0) (fun e t H h => resK_tw h fn.res _) (fun _ _ _ _ _ => rfl) (fun e t H h => resK_tw h fn.res _)
end Go.Sh
