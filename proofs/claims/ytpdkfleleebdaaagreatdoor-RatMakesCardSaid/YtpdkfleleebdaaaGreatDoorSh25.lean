/- Faster operations, for the kernel: values are forced, nothing is copied twice. They answer as the machine's own. -/
import Derived.Test.YtpdkfleleebdaaaGreatDoorSh24
set_option linter.unusedVariables false
set_option linter.unusedSimpArgs false
namespace Go.Sh
open Go
noncomputable def fN (n : Nat) (k : Nat -> Rs) : Rs := Nat.rec (motive := fun _ => Rs) (k 0) (fun m _ => k (Nat.succ m)) n
theorem fN_eq (n : Nat) (k : Nat -> Rs) : fN n k = k n := by cases n <;> rfl
noncomputable def fI (n : Int) (k : Int -> Rs) : Rs := Int.rec (motive := fun _ => Rs) (fun m => fN m fun m => k (.ofNat m)) (fun m => fN m fun m => k (.negSucc m)) n
theorem fI_eq (n : Int) (k : Int -> Rs) : fI n k = k n := by cases n <;> simp only [fI, fN_eq]
noncomputable def w64 (n : Int) (k : Int -> Rs) : Rs := Int.rec (motive := fun _ => Rs)
 (fun m => Bool.rec (motive := fun _ => Rs) (fI (IntKind.wrap .i64 (.ofNat m)) k) (fN m fun m => k (.ofNat m)) (Nat.ble m 9223372036854775807))
 (fun m => Bool.rec (motive := fun _ => Rs) (fI (IntKind.wrap .i64 (.negSucc m)) k) (fN m fun m => k (.negSucc m)) (Nat.ble m 9223372036854775807)) n
noncomputable def wU (P : Nat) (kd : IntKind) (n : Int) (k : Int -> Rs) : Rs := Int.rec (motive := fun _ => Rs)
 (fun m => fN (Nat.mod m P) fun m => k (.ofNat m)) (fun m => fI (kd.wrap (.negSucc m)) k) n
theorem wrap_i64 {n : Int} (h0 : -9223372036854775808 <= n) (h1 : n < 9223372036854775808) : IntKind.wrap .i64 n = n := by
 have e : IntKind.wrap .i64 n = if n % 18446744073709551616 >= 9223372036854775808 then n % 18446744073709551616 - 18446744073709551616 else n % 18446744073709551616 := by
  simp [IntKind.wrap, IntKind.bits, IntKind.signed]
 rw [e]
 split <;> omega
theorem w64_eq (n : Int) (k : Int -> Rs) : w64 n k = k (IntKind.wrap .i64 n) := by
 cases n with
 | ofNat m =>
  simp only [w64]
  cases h : Nat.ble m 9223372036854775807 with
  | false => simp only [fI_eq]
  | true =>
   simp only [fN_eq]
   have := Nat.le_of_ble_eq_true h
   rw [wrap_i64 (by rw [Int.ofNat_eq_natCast]; omega) (by rw [Int.ofNat_eq_natCast]; omega)]
 | negSucc m =>
  simp only [w64]
  cases h : Nat.ble m 9223372036854775807 with
  | false => simp only [fI_eq]
  | true =>
   simp only [fN_eq]
   have := Nat.le_of_ble_eq_true h
   rw [wrap_i64 (by omega) (by omega)]
theorem wU_eq {P : Nat} {kd : IntKind} (hs : kd.signed = false) (hp : (2 : Int) ^ kd.bits = P) (n : Int) (k : Int -> Rs) : wU P kd n k = k (IntKind.wrap kd n) := by
 cases n with
 | ofNat m =>
  simp only [wU, fN_eq]
  congr 1
  unfold IntKind.wrap
  rw [hp, hs]
  simp only [Bool.false_and, Bool.false_eq_true, if_false]
  exact (Int.natCast_emod m P).symm ▸ rfl
 | negSucc m => simp only [wU, fI_eq]
noncomputable def wK (kd : IntKind) (n : Int) (k : Int -> Rs) : Rs :=
 match kd with
 | .i64 => w64 n k
 | .u64 => wU 18446744073709551616 .u64 n k
 | .u32 => wU 4294967296 .u32 n k
 | .u8 => wU 256 .u8 n k
 | kd => fI (kd.wrap n) k
theorem wK_eq (kd : IntKind) (n : Int) (k : Int -> Rs) : wK kd n k = k (kd.wrap n) := by
 cases kd <;> simp only [wK, w64_eq, fI_eq]
 ·exact wU_eq rfl (by decide) n k
 ·exact wU_eq rfl (by decide) n k
 ·exact wU_eq rfl (by decide) n k
noncomputable def ints (x y : SV) (d : Rs) (f : IntKind -> Int -> Int -> Rs) : Rs :=
 match x with
 | .int k a => (match y with
  | .int k' b => (match k with
   | .i64 => (match k' with | .i64 => f .i64 a b | _ => d)
   | .u64 => (match k' with | .u64 => f .u64 a b | _ => d)
   | .u32 => (match k' with | .u32 => f .u32 a b | _ => d)
   | _ => d)
  | _ => d)
 | _ => d
noncomputable def nK (kd : IntKind) (n : Int) (k : K1) : Rs := wK kd n fun n => k (.int kd n)
theorem nK_eq (kd : IntKind) (n : Int) (k : K1) : nK kd n k = k (wrapB kd n) := by simp only [nK, wK_eq, wrapB]
theorem kindEq_refl (k : IntKind) : kindEq k k = true := by cases k <;> rfl
theorem bin_eq {op : BinOp} (hs : op ≠ .shl) (hr : op ≠ .shr) (k : IntKind) (a b : Int) : opP (.bin op) [.int k a, .int k b] = intOp op k a b := by
 cases op <;> first | exact absurd rfl hs | exact absurd rfl hr | simp [opP, binOp, kindEq_refl]
noncomputable def bitsN (kd : IntKind) : Nat := match kd with | .i8 => 8 | .u8 => 8 | .i16 => 16 | .u16 => 16 | .i32 => 32 | .u32 => 32 | .i64 => 64 | .u64 => 64
theorem bitsN_eq (kd : IntKind) : bitsN kd = kd.bits := by cases kd <;> rfl
noncomputable def posInts (x y : SV) (d : Rs) (f : IntKind -> Nat -> Nat -> Rs) : Rs := ints x y d fun k a b =>
 Int.rec (motive := fun _ => Rs) (fun m => Int.rec (motive := fun _ => Rs) (fun n => f k m n) (fun _ => d) b) (fun _ => d) a
theorem posInts_eq {D : SV -> SV -> Rs} {f : IntKind -> Nat -> Nat -> Rs} (h : ∀ k (a b : Nat), D (.int k (.ofNat a)) (.int k (.ofNat b)) = f k a b) (x y : SV) : posInts x y (D x y) f = D x y := by
 cases x with
 | int k a =>
  cases y with
  | int k' b =>
   cases a with
   | negSucc m => cases k <;> cases k' <;> rfl
   | ofNat m =>
    cases b with
    | negSucc n => cases k <;> cases k' <;> rfl
    | ofNat n => cases k <;> cases k' <;> first | exact (h _ _ _).symm | rfl
  | _ => rfl
 | _ => rfl
noncomputable def qAnd : B2 := fun x y k => posInts x y ((opP (.bin .and) [x, y]).bind k) fun kd a b => nK kd (.ofNat (Nat.land (Nat.mod a (Nat.pow 2 (bitsN kd))) (Nat.mod b (Nat.pow 2 (bitsN kd))))) k
noncomputable def qOr : B2 := fun x y k => posInts x y ((opP (.bin .or) [x, y]).bind k) fun kd a b => nK kd (.ofNat (Nat.lor (Nat.mod a (Nat.pow 2 (bitsN kd))) (Nat.mod b (Nat.pow 2 (bitsN kd))))) k
noncomputable def qXor : B2 := fun x y k => posInts x y ((opP (.bin .xor) [x, y]).bind k) fun kd a b => nK kd (.ofNat (Nat.xor (Nat.mod a (Nat.pow 2 (bitsN kd))) (Nat.mod b (Nat.pow 2 (bitsN kd))))) k
theorem bv_ofNat (w m : Nat) : (BitVec.ofInt w (.ofNat m)).toNat = m % 2 ^ w := by
 rw [Int.ofNat_eq_natCast, BitVec.ofInt_natCast, BitVec.toNat_ofNat]
theorem qAnd_eq : qAnd = slow.and := by
 funext x y k
 refine posInts_eq (D := fun x y => (opP (.bin .and) [x, y]).bind k) (fun kd a b => ?_) x y
 rw [bin_eq (by decide) (by decide)]
 simp only [intOp, bitsOp, nK_eq, Option.bind_some, BitVec.toNat_and, bv_ofNat, bitsN_eq]
 rfl
theorem qOr_eq : qOr = slow.or := by
 funext x y k
 refine posInts_eq (D := fun x y => (opP (.bin .or) [x, y]).bind k) (fun kd a b => ?_) x y
 rw [bin_eq (by decide) (by decide)]
 simp only [intOp, bitsOp, nK_eq, Option.bind_some, BitVec.toNat_or, bv_ofNat, bitsN_eq]
 rfl
theorem qXor_eq : qXor = slow.xor := by
 funext x y k
 refine posInts_eq (D := fun x y => (opP (.bin .xor) [x, y]).bind k) (fun kd a b => ?_) x y
 rw [bin_eq (by decide) (by decide)]
 simp only [intOp, bitsOp, nK_eq, Option.bind_some, BitVec.toNat_xor, bv_ofNat, bitsN_eq]
 rfl
abbrev KL := List SV -> Rs
end Go.Sh
