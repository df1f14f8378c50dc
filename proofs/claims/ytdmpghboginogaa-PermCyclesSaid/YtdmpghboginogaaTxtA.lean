/- Words for texts of one digit, and of two texts. -/
import Derived.Test.YtdmpghboginogaaNatM
set_option linter.unusedVariables false
set_option linter.unusedSimpArgs false
namespace Go.Sh.Of
open Go

theorem z_str1 {H : Heap} {v : SV} {d : Nat} (h : Arr H v [u8 (48 + d)]) (hd : d < 10) (k : K1) : slow.str v H k = k (.str [chr d]) := by
  obtain ⟨s, rfl, e1, e2⟩ := h.elems
  have hb : bytesOf [u8 (48 + d)] = some [chr d] := bytes_chrs [d] (by simpa using hd)
  show ((opR .str [.slice s] H).bind _) = _
  simp only [opR, e2, Option.bind_some, hb, Option.map_some]
theorem z_sadd (k : K1) {a b : List UInt8} (h : a.length + b.length ≤ 4611686018427387904) : slow.add (.str a) (.str b) k = k (.str (a ++ b)) := by
  show (opP (.bin .add) [.str a, .str b]).bind k = _
  simp only [opP, binOp, strOp, Nat.ble_eq_true_of_le h, cond_true, Option.bind_some]
end Go.Sh.Of
