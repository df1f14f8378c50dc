/- Contracts of the package mat: rows and matrices; shaped, made. Contracts of the package mat: Text; words for rows of numbers and of texts. Contracts of the package mat: lengths of rows. Contracts of the package mat: lengths of rows. Contracts of the package mat: Of, Make, Identity. Contracts of the package mat: made, where the function that tells entries keeps the first error in a box. Matrices of whole numbers: plain laws of products, sums, transposes. Contracts of the package mat: Parse, whole, Size, Add, Mul, Transpose, Same. Contracts: Uint64, Int64 of numbers and of matrices. -/
import Derived.Test.YtpdkfleleebdaaaGreatDoorNum
import Derived.Test.YtpdkfleleebdaaaGreatDoorSh31
set_option linter.unusedVariables false
set_option linter.unusedSimpArgs false
namespace Go.Sh.Of
open Go
def slen : SV -> Nat
 | .slice s => s.len
 | _ => 0
def isSlice : SV -> Prop
 | .slice _ => True
 | _ => False
theorem Arr.slen {H : Heap} {v : SV} {cs : List SV} (h : Arr H v cs) : isSlice v /\ slen v = cs.length := by
 obtain ⟨s, rfl, h1, _⟩ := h
 exact ⟨trivial, h1⟩
end Go.Sh.Of
namespace Go.Sh.Of
open Go
theorem push1 {lo : Nat} {H : Heap} {t : SV} {cs : List SV} (h : Own lo H t cs) (hl : lo <= H.size) (z : SV) {x : SV} (hx : x.flat = true) {by_ : Nat} (hr : roomy (cs.length + 1) by_ = true) :
  ∃ t' H', (∀ k, slow.hbuild 1 [z] [(0, 1)] [x] H (fun u H1 => slow.append 1 by_ t u H1 k) = k t' H') /\ Own lo H' t' (cs ++ [x]) /\ Fr lo H H' /\ (∀ r, ¬ inRow t r -> r < H.size -> H'.get r = H.get r) := by
 obtain ⟨u, H1, hu, hou, hfu, hru, hsz⟩ := z_lay1 (H := H) (lo := H.size) (Nat.le_refl _) z hx
 obtain ⟨t', H2, ha, ho2, hf2, hrw, _, _⟩ := (h.fr hfu).append (Nat.le_trans hl hfu.size) hou.arr (by_ := by_) hr
 exact ⟨t', H2, fun k => by rw [hu, ha], ho2, (hfu.mono hl).trans hf2, fun r hn hlt => by rw [hrw r hn (Nat.lt_of_lt_of_le hlt hfu.size), hfu.rows r hlt]⟩
theorem Arr.isSlice {H : Heap} {v : SV} {cs : List SV} (h : Arr H v cs) : isSlice v := (Arr.slen h).1
end Go.Sh.Of
namespace Go.Sh.Of
open Go
end Go.Sh.Of
namespace Go.Sh.Of
open Go
end Go.Sh.Of
namespace Go.Sh.Of
open Go
def colsOf (rows : List (List Int)) : Nat := ((rows[0]?).getD []).length
end Go.Sh.Of
namespace Go.Sh.Of
open Go
end Go.Sh.Of
namespace Go.Sh.Of
open Go
structure Good (A : List (List Int)) : Prop where
 rect : ∀ r ∈ A, r.length = colsOf A
 cols : A ≠ [] -> 1 <= colsOf A /\ colsOf A <= 16
 rows : A.length <= 16
 big : ∀ r ∈ A, ∀ z ∈ r, z.natAbs < 2 ^ 4096
end Go.Sh.Of
namespace Go.Sh.Of
open Go
end Go.Sh.Of
namespace Go.Sh.Of
open Go Go.Sh
end Go.Sh.Of
