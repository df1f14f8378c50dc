/- Words for texts of one digit, and of two texts. -/
import Derived.Test.YtdmpghboginogaaNatM
import Derived.Test.YtdmpghboginogaaSh31
set_option linter.unusedVariables false
set_option linter.unusedSimpArgs false
namespace Go.Sh.Of
open Go

theorem z_str1 {H : Heap} {v : SV} {d : Nat} (h : Arr H v [u8 (48 + d)]) (hd : d < 10) (k : K1) : slow.str v H k = k (.str [chr d]) := by
  obtain ⟨s, rfl, e1, e2⟩ := h.elems
  have hb : bytesOf [u8 (48 + d)] = some [chr d] := bytes_chrs [d] (by simpa using hd)
  show ((opR .str [.slice s] H).bind _) = _
  simp only [opR, e2, Option.bind_some, hb, Option.map_some]
theorem z_sadd (k : K1) {a b : List UInt8} (h : a.length + b.length ≤ 4611686018427387904) : slow.add (.str a) (.str b) k = k (.str (a ++ b)) := by
  show (opP (.bin .add) [.str a, .str b]).bind k = _
  simp only [opP, binOp, strOp, Nat.ble_eq_true_of_le h, cond_true, Option.bind_some]
theorem push1 {lo : Nat} {H : Heap} {t : SV} {cs : List SV} (h : Own lo H t cs) (hl : lo ≤ H.size) (z : SV) {x : SV} (hx : x.flat = true) {by_ : Nat} (hr : roomy (cs.length + 1) by_ = true) :
    ∃ t' H', (∀ k, slow.hbuild 1 [z] [(0, 1)] [x] H (fun u H1 => slow.append 1 by_ t u H1 k) = k t' H') ∧ Own lo H' t' (cs ++ [x]) ∧ Fr lo H H' ∧ (∀ r, ¬ inRow t r → r < H.size → H'.get r = H.get r) := by
  obtain ⟨u, H1, hu, hou, hfu, hru, hsz⟩ := z_lay1 (H := H) (lo := H.size) (Nat.le_refl _) z hx
  obtain ⟨t', H2, ha, ho2, hf2, hrw, _, _⟩ := (h.fr hfu).append (Nat.le_trans hl hfu.size) hou.arr (by_ := by_) hr
  exact ⟨t', H2, fun k => by rw [hu, ha], ho2, (hfu.mono hl).trans hf2, fun r hn hlt => by rw [hrw r hn (Nat.lt_of_lt_of_le hlt hfu.size), hfu.rows r hlt]⟩
end Go.Sh.Of
