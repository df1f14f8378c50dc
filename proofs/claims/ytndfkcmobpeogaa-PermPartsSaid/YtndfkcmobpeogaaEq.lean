/- The plain forms are the compiled ones: a table of both. -/
import Derived.Test.YtndfkcmobpeogaaCf
import Derived.Test.YtndfkcmobpeogaaPf
set_option maxRecDepth 100000
namespace Go.Sh.Of
open Go
theorem eqt3 (K : Nat) (C : CallC) (a0 a1 : SV) (H : Heap) : runFn3 cf3 K C [a0, a1] H = f3 slowR K C a0 a1 H := by kernel_rfl
theorem eq3 (K : Nat) (C : CallC) (a0 a1 : SV) (H : Heap) : runFn2 cf3 K C [a0, a1] H = f3 slow K C a0 a1 H := (runFn_tw cf3 K C [a0, a1] H).trans (slowR_eq ▸ eqt3 K C a0 a1 H)
theorem eqt4 (K : Nat) (C : CallC) (a0 a1 a2 : SV) (H : Heap) : runFn3 cf4 K C [a0, a1, a2] H = f4 slowR K C a0 a1 a2 H := by kernel_rfl
theorem eq4 (K : Nat) (C : CallC) (a0 a1 a2 : SV) (H : Heap) : runFn2 cf4 K C [a0, a1, a2] H = f4 slow K C a0 a1 a2 H := (runFn_tw cf4 K C [a0, a1, a2] H).trans (slowR_eq ▸ eqt4 K C a0 a1 a2 H)
theorem eqt5 (K : Nat) (C : CallC) (a0 a1 : SV) (H : Heap) : runFn3 cf5 K C [a0, a1] H = f5 slowR K C a0 a1 H := by kernel_rfl
theorem eq5 (K : Nat) (C : CallC) (a0 a1 : SV) (H : Heap) : runFn2 cf5 K C [a0, a1] H = f5 slow K C a0 a1 H := (runFn_tw cf5 K C [a0, a1] H).trans (slowR_eq ▸ eqt5 K C a0 a1 H)
theorem eqt6 (K : Nat) (C : CallC) (a0 a1 : SV) (H : Heap) : runFn3 cf6 K C [a0, a1] H = f6 slowR K C a0 a1 H := by kernel_rfl
theorem eq6 (K : Nat) (C : CallC) (a0 a1 : SV) (H : Heap) : runFn2 cf6 K C [a0, a1] H = f6 slow K C a0 a1 H := (runFn_tw cf6 K C [a0, a1] H).trans (slowR_eq ▸ eqt6 K C a0 a1 H)
theorem eqt7 (K : Nat) (C : CallC) (a0 a1 : SV) (H : Heap) : runFn3 cf7 K C [a0, a1] H = f7 slowR K C a0 a1 H := by kernel_rfl
theorem eq7 (K : Nat) (C : CallC) (a0 a1 : SV) (H : Heap) : runFn2 cf7 K C [a0, a1] H = f7 slow K C a0 a1 H := (runFn_tw cf7 K C [a0, a1] H).trans (slowR_eq ▸ eqt7 K C a0 a1 H)
theorem eqt8 (K : Nat) (C : CallC) (H : Heap) : runFn3 cf8 K C [] H = f8 slowR K C H := by kernel_rfl
theorem eq8 (K : Nat) (C : CallC) (H : Heap) : runFn2 cf8 K C [] H = f8 slow K C H := (runFn_tw cf8 K C [] H).trans (slowR_eq ▸ eqt8 K C H)
theorem eqt9 (K : Nat) (C : CallC) (a0 a1 : SV) (H : Heap) : runFn3 cf9 K C [a0, a1] H = f9 slowR K C a0 a1 H := by kernel_rfl
theorem eq9 (K : Nat) (C : CallC) (a0 a1 : SV) (H : Heap) : runFn2 cf9 K C [a0, a1] H = f9 slow K C a0 a1 H := (runFn_tw cf9 K C [a0, a1] H).trans (slowR_eq ▸ eqt9 K C a0 a1 H)
theorem eqt10 (K : Nat) (C : CallC) (a0 : SV) (H : Heap) : runFn3 cf10 K C [a0] H = f10 slowR K C a0 H := by kernel_rfl
theorem eq10 (K : Nat) (C : CallC) (a0 : SV) (H : Heap) : runFn2 cf10 K C [a0] H = f10 slow K C a0 H := (runFn_tw cf10 K C [a0] H).trans (slowR_eq ▸ eqt10 K C a0 H)
theorem eqt11 (K : Nat) (C : CallC) (a0 a1 : SV) (H : Heap) : runFn3 cf11 K C [a0, a1] H = f11 slowR K C a0 a1 H := by kernel_rfl
theorem eq11 (K : Nat) (C : CallC) (a0 a1 : SV) (H : Heap) : runFn2 cf11 K C [a0, a1] H = f11 slow K C a0 a1 H := (runFn_tw cf11 K C [a0, a1] H).trans (slowR_eq ▸ eqt11 K C a0 a1 H)
theorem eqt12 (K : Nat) (C : CallC) (a0 : SV) (H : Heap) : runFn3 cf12 K C [a0] H = f12 slowR K C a0 H := by kernel_rfl
theorem eq12 (K : Nat) (C : CallC) (a0 : SV) (H : Heap) : runFn2 cf12 K C [a0] H = f12 slow K C a0 H := (runFn_tw cf12 K C [a0] H).trans (slowR_eq ▸ eqt12 K C a0 H)
theorem eqt13 (K : Nat) (C : CallC) (a0 : SV) (H : Heap) : runFn3 cf13 K C [a0] H = f13 slowR K C a0 H := by kernel_rfl
theorem eq13 (K : Nat) (C : CallC) (a0 : SV) (H : Heap) : runFn2 cf13 K C [a0] H = f13 slow K C a0 H := (runFn_tw cf13 K C [a0] H).trans (slowR_eq ▸ eqt13 K C a0 H)
theorem eqt14 (K : Nat) (C : CallC) (a0 a1 : SV) (H : Heap) : runFn3 cf14 K C [a0, a1] H = f14 slowR K C a0 a1 H := by kernel_rfl
theorem eq14 (K : Nat) (C : CallC) (a0 a1 : SV) (H : Heap) : runFn2 cf14 K C [a0, a1] H = f14 slow K C a0 a1 H := (runFn_tw cf14 K C [a0, a1] H).trans (slowR_eq ▸ eqt14 K C a0 a1 H)
theorem eqt15 (K : Nat) (C : CallC) (a0 a1 : SV) (H : Heap) : runFn3 cf15 K C [a0, a1] H = f15 slowR K C a0 a1 H := by kernel_rfl
theorem eq15 (K : Nat) (C : CallC) (a0 a1 : SV) (H : Heap) : runFn2 cf15 K C [a0, a1] H = f15 slow K C a0 a1 H := (runFn_tw cf15 K C [a0, a1] H).trans (slowR_eq ▸ eqt15 K C a0 a1 H)
theorem eqt16 (K : Nat) (C : CallC) (a0 a1 : SV) (H : Heap) : runFn3 cf16 K C [a0, a1] H = f16 slowR K C a0 a1 H := by kernel_rfl
theorem eq16 (K : Nat) (C : CallC) (a0 a1 : SV) (H : Heap) : runFn2 cf16 K C [a0, a1] H = f16 slow K C a0 a1 H := (runFn_tw cf16 K C [a0, a1] H).trans (slowR_eq ▸ eqt16 K C a0 a1 H)
theorem eqt17 (K : Nat) (C : CallC) (a0 : SV) (H : Heap) : runFn3 cf17 K C [a0] H = f17 slowR K C a0 H := by kernel_rfl
theorem eq17 (K : Nat) (C : CallC) (a0 : SV) (H : Heap) : runFn2 cf17 K C [a0] H = f17 slow K C a0 H := (runFn_tw cf17 K C [a0] H).trans (slowR_eq ▸ eqt17 K C a0 H)
theorem eqt18 (K : Nat) (C : CallC) (a0 : SV) (H : Heap) : runFn3 cf18 K C [a0] H = f18 slowR K C a0 H := by kernel_rfl
theorem eq18 (K : Nat) (C : CallC) (a0 : SV) (H : Heap) : runFn2 cf18 K C [a0] H = f18 slow K C a0 H := (runFn_tw cf18 K C [a0] H).trans (slowR_eq ▸ eqt18 K C a0 H)
theorem eqt19 (K : Nat) (C : CallC) (a0 : SV) (H : Heap) : runFn3 cf19 K C [a0] H = f19 slowR K C a0 H := by kernel_rfl
theorem eq19 (K : Nat) (C : CallC) (a0 : SV) (H : Heap) : runFn2 cf19 K C [a0] H = f19 slow K C a0 H := (runFn_tw cf19 K C [a0] H).trans (slowR_eq ▸ eqt19 K C a0 H)
theorem eqt20 (K : Nat) (C : CallC) (a0 : SV) (H : Heap) : runFn3 cf20 K C [a0] H = f20 slowR K C a0 H := by kernel_rfl
theorem eq20 (K : Nat) (C : CallC) (a0 : SV) (H : Heap) : runFn2 cf20 K C [a0] H = f20 slow K C a0 H := (runFn_tw cf20 K C [a0] H).trans (slowR_eq ▸ eqt20 K C a0 H)
theorem eqt21 (K : Nat) (C : CallC) (a0 a1 : SV) (H : Heap) : runFn3 cf21 K C [a0, a1] H = f21 slowR K C a0 a1 H := by kernel_rfl
theorem eq21 (K : Nat) (C : CallC) (a0 a1 : SV) (H : Heap) : runFn2 cf21 K C [a0, a1] H = f21 slow K C a0 a1 H := (runFn_tw cf21 K C [a0, a1] H).trans (slowR_eq ▸ eqt21 K C a0 a1 H)
theorem eqt22 (K : Nat) (C : CallC) (a0 a1 : SV) (H : Heap) : runFn3 cf22 K C [a0, a1] H = f22 slowR K C a0 a1 H := by kernel_rfl
theorem eq22 (K : Nat) (C : CallC) (a0 a1 : SV) (H : Heap) : runFn2 cf22 K C [a0, a1] H = f22 slow K C a0 a1 H := (runFn_tw cf22 K C [a0, a1] H).trans (slowR_eq ▸ eqt22 K C a0 a1 H)
theorem eqt23 (K : Nat) (C : CallC) (a0 a1 : SV) (H : Heap) : runFn3 cf23 K C [a0, a1] H = f23 slowR K C a0 a1 H := by kernel_rfl
theorem eq23 (K : Nat) (C : CallC) (a0 a1 : SV) (H : Heap) : runFn2 cf23 K C [a0, a1] H = f23 slow K C a0 a1 H := (runFn_tw cf23 K C [a0, a1] H).trans (slowR_eq ▸ eqt23 K C a0 a1 H)
theorem eqt24 (K : Nat) (C : CallC) (a0 : SV) (H : Heap) : runFn3 cf24 K C [a0] H = f24 slowR K C a0 H := by kernel_rfl
theorem eq24 (K : Nat) (C : CallC) (a0 : SV) (H : Heap) : runFn2 cf24 K C [a0] H = f24 slow K C a0 H := (runFn_tw cf24 K C [a0] H).trans (slowR_eq ▸ eqt24 K C a0 H)
theorem eqt25 (K : Nat) (C : CallC) (a0 : SV) (H : Heap) : runFn3 cf25 K C [a0] H = f25 slowR K C a0 H := by kernel_rfl
theorem eq25 (K : Nat) (C : CallC) (a0 : SV) (H : Heap) : runFn2 cf25 K C [a0] H = f25 slow K C a0 H := (runFn_tw cf25 K C [a0] H).trans (slowR_eq ▸ eqt25 K C a0 H)
theorem eqt26 (K : Nat) (C : CallC) (a0 a1 : SV) (H : Heap) : runFn3 cf26 K C [a0, a1] H = f26 slowR K C a0 a1 H := by kernel_rfl
theorem eq26 (K : Nat) (C : CallC) (a0 a1 : SV) (H : Heap) : runFn2 cf26 K C [a0, a1] H = f26 slow K C a0 a1 H := (runFn_tw cf26 K C [a0, a1] H).trans (slowR_eq ▸ eqt26 K C a0 a1 H)
theorem eqt27 (K : Nat) (C : CallC) (a0 a1 : SV) (H : Heap) : runFn3 cf27 K C [a0, a1] H = f27 slowR K C a0 a1 H := by kernel_rfl
theorem eq27 (K : Nat) (C : CallC) (a0 a1 : SV) (H : Heap) : runFn2 cf27 K C [a0, a1] H = f27 slow K C a0 a1 H := (runFn_tw cf27 K C [a0, a1] H).trans (slowR_eq ▸ eqt27 K C a0 a1 H)
theorem eqt28 (K : Nat) (C : CallC) (a0 a1 : SV) (H : Heap) : runFn3 cf28 K C [a0, a1] H = f28 slowR K C a0 a1 H := by kernel_rfl
theorem eq28 (K : Nat) (C : CallC) (a0 a1 : SV) (H : Heap) : runFn2 cf28 K C [a0, a1] H = f28 slow K C a0 a1 H := (runFn_tw cf28 K C [a0, a1] H).trans (slowR_eq ▸ eqt28 K C a0 a1 H)
theorem eqt29 (K : Nat) (C : CallC) (a0 : SV) (H : Heap) : runFn3 cf29 K C [a0] H = f29 slowR K C a0 H := by kernel_rfl
theorem eq29 (K : Nat) (C : CallC) (a0 : SV) (H : Heap) : runFn2 cf29 K C [a0] H = f29 slow K C a0 H := (runFn_tw cf29 K C [a0] H).trans (slowR_eq ▸ eqt29 K C a0 H)
theorem eqt30 (K : Nat) (C : CallC) (a0 a1 : SV) (H : Heap) : runFn3 cf30 K C [a0, a1] H = f30 slowR K C a0 a1 H := by kernel_rfl
theorem eq30 (K : Nat) (C : CallC) (a0 a1 : SV) (H : Heap) : runFn2 cf30 K C [a0, a1] H = f30 slow K C a0 a1 H := (runFn_tw cf30 K C [a0, a1] H).trans (slowR_eq ▸ eqt30 K C a0 a1 H)
theorem eqt31 (K : Nat) (C : CallC) (a0 : SV) (H : Heap) : runFn3 cf31 K C [a0] H = f31 slowR K C a0 H := by kernel_rfl
theorem eq31 (K : Nat) (C : CallC) (a0 : SV) (H : Heap) : runFn2 cf31 K C [a0] H = f31 slow K C a0 H := (runFn_tw cf31 K C [a0] H).trans (slowR_eq ▸ eqt31 K C a0 H)
theorem eqt32 (K : Nat) (C : CallC) (a0 : SV) (H : Heap) : runFn3 cf32 K C [a0] H = f32 slowR K C a0 H := by kernel_rfl
theorem eq32 (K : Nat) (C : CallC) (a0 : SV) (H : Heap) : runFn2 cf32 K C [a0] H = f32 slow K C a0 H := (runFn_tw cf32 K C [a0] H).trans (slowR_eq ▸ eqt32 K C a0 H)
theorem eqt33 (K : Nat) (C : CallC) (a0 a1 a2 : SV) (H : Heap) : runFn3 cf33 K C [a0, a1, a2] H = f33 slowR K C a0 a1 a2 H := by kernel_rfl
theorem eq33 (K : Nat) (C : CallC) (a0 a1 a2 : SV) (H : Heap) : runFn2 cf33 K C [a0, a1, a2] H = f33 slow K C a0 a1 a2 H := (runFn_tw cf33 K C [a0, a1, a2] H).trans (slowR_eq ▸ eqt33 K C a0 a1 a2 H)
theorem eqt34 (K : Nat) (C : CallC) (a0 a1 a2 : SV) (H : Heap) : runFn3 cf34 K C [a0, a1, a2] H = f34 slowR K C a0 a1 a2 H := by kernel_rfl
theorem eq34 (K : Nat) (C : CallC) (a0 a1 a2 : SV) (H : Heap) : runFn2 cf34 K C [a0, a1, a2] H = f34 slow K C a0 a1 a2 H := (runFn_tw cf34 K C [a0, a1, a2] H).trans (slowR_eq ▸ eqt34 K C a0 a1 a2 H)
theorem eqt35 (K : Nat) (C : CallC) (a0 a1 : SV) (H : Heap) : runFn3 cf35 K C [a0, a1] H = f35 slowR K C a0 a1 H := by kernel_rfl
theorem eq35 (K : Nat) (C : CallC) (a0 a1 : SV) (H : Heap) : runFn2 cf35 K C [a0, a1] H = f35 slow K C a0 a1 H := (runFn_tw cf35 K C [a0, a1] H).trans (slowR_eq ▸ eqt35 K C a0 a1 H)
theorem eqt36 (K : Nat) (C : CallC) (a0 : SV) (H : Heap) : runFn3 cf36 K C [a0] H = f36 slowR K C a0 H := by kernel_rfl
theorem eq36 (K : Nat) (C : CallC) (a0 : SV) (H : Heap) : runFn2 cf36 K C [a0] H = f36 slow K C a0 H := (runFn_tw cf36 K C [a0] H).trans (slowR_eq ▸ eqt36 K C a0 H)
theorem eqt37 (K : Nat) (C : CallC) (a0 a1 a2 : SV) (H : Heap) : runFn3 cf37 K C [a0, a1, a2] H = f37 slowR K C a0 a1 a2 H := by kernel_rfl
theorem eq37 (K : Nat) (C : CallC) (a0 a1 a2 : SV) (H : Heap) : runFn2 cf37 K C [a0, a1, a2] H = f37 slow K C a0 a1 a2 H := (runFn_tw cf37 K C [a0, a1, a2] H).trans (slowR_eq ▸ eqt37 K C a0 a1 a2 H)
def ents : EL := [(3, cf3, ent2 f3), (4, cf4, ent3 f4), (5, cf5, ent2 f5), (6, cf6, ent2 f6), (7, cf7, ent2 f7), (8, cf8, ent0 f8), (9, cf9, ent2 f9), (10, cf10, ent1 f10), (11, cf11, ent2 f11), (12, cf12, ent1 f12), (13, cf13, ent1 f13), (14, cf14, ent2 f14), (15, cf15, ent2 f15), (16, cf16, ent2 f16), (17, cf17, ent1 f17), (18, cf18, ent1 f18), (19, cf19, ent1 f19), (20, cf20, ent1 f20), (21, cf21, ent2 f21), (22, cf22, ent2 f22), (23, cf23, ent2 f23), (24, cf24, ent1 f24), (25, cf25, ent1 f25), (26, cf26, ent2 f26), (27, cf27, ent2 f27), (28, cf28, ent2 f28), (29, cf29, ent1 f29), (30, cf30, ent2 f30), (31, cf31, ent1 f31), (32, cf32, ent1 f32), (33, cf33, ent3 f33), (34, cf34, ent3 f34), (35, cf35, ent2 f35), (36, cf36, ent1 f36), (37, cf37, ent3 f37)]
theorem entsOk : AllOk ents := ⟨EntOk.of2 (fun K C a0 a1 H => eq3 K C a0 a1 H), ⟨EntOk.of3 (fun K C a0 a1 a2 H => eq4 K C a0 a1 a2 H), ⟨EntOk.of2 (fun K C a0 a1 H => eq5 K C a0 a1 H), ⟨EntOk.of2 (fun K C a0 a1 H => eq6 K C a0 a1 H), ⟨EntOk.of2 (fun K C a0 a1 H => eq7 K C a0 a1 H), ⟨EntOk.of0 (fun K C H => eq8 K C H), ⟨EntOk.of2 (fun K C a0 a1 H => eq9 K C a0 a1 H), ⟨EntOk.of1 (fun K C a0 H => eq10 K C a0 H), ⟨EntOk.of2 (fun K C a0 a1 H => eq11 K C a0 a1 H), ⟨EntOk.of1 (fun K C a0 H => eq12 K C a0 H), ⟨EntOk.of1 (fun K C a0 H => eq13 K C a0 H), ⟨EntOk.of2 (fun K C a0 a1 H => eq14 K C a0 a1 H), ⟨EntOk.of2 (fun K C a0 a1 H => eq15 K C a0 a1 H), ⟨EntOk.of2 (fun K C a0 a1 H => eq16 K C a0 a1 H), ⟨EntOk.of1 (fun K C a0 H => eq17 K C a0 H), ⟨EntOk.of1 (fun K C a0 H => eq18 K C a0 H), ⟨EntOk.of1 (fun K C a0 H => eq19 K C a0 H), ⟨EntOk.of1 (fun K C a0 H => eq20 K C a0 H), ⟨EntOk.of2 (fun K C a0 a1 H => eq21 K C a0 a1 H), ⟨EntOk.of2 (fun K C a0 a1 H => eq22 K C a0 a1 H), ⟨EntOk.of2 (fun K C a0 a1 H => eq23 K C a0 a1 H), ⟨EntOk.of1 (fun K C a0 H => eq24 K C a0 H), ⟨EntOk.of1 (fun K C a0 H => eq25 K C a0 H), ⟨EntOk.of2 (fun K C a0 a1 H => eq26 K C a0 a1 H), ⟨EntOk.of2 (fun K C a0 a1 H => eq27 K C a0 a1 H), ⟨EntOk.of2 (fun K C a0 a1 H => eq28 K C a0 a1 H), ⟨EntOk.of1 (fun K C a0 H => eq29 K C a0 H), ⟨EntOk.of2 (fun K C a0 a1 H => eq30 K C a0 a1 H), ⟨EntOk.of1 (fun K C a0 H => eq31 K C a0 H), ⟨EntOk.of1 (fun K C a0 H => eq32 K C a0 H), ⟨EntOk.of3 (fun K C a0 a1 a2 H => eq33 K C a0 a1 a2 H), ⟨EntOk.of3 (fun K C a0 a1 a2 H => eq34 K C a0 a1 a2 H), ⟨EntOk.of2 (fun K C a0 a1 H => eq35 K C a0 a1 H), ⟨EntOk.of1 (fun K C a0 H => eq36 K C a0 H), ⟨EntOk.of3 (fun K C a0 a1 a2 H => eq37 K C a0 a1 a2 H), trivial⟩⟩⟩⟩⟩⟩⟩⟩⟩⟩⟩⟩⟩⟩⟩⟩⟩⟩⟩⟩⟩⟩⟩⟩⟩⟩⟩⟩⟩⟩⟩⟩⟩⟩⟩
def tab : BT Ent := (.node none (.node none (.node (some (ent2 f3)) (.node (some (ent2 f7)) (.node (some (ent2 f15)) (.node (some (ent1 f31)) .nil .nil) .nil) (.node (some (ent2 f23)) .nil .nil)) (.node (some (ent2 f11)) (.node (some (ent1 f19)) (.node (some (ent2 f35)) .nil .nil) .nil) (.node (some (ent2 f27)) .nil .nil))) (.node (some (ent2 f5)) (.node (some (ent2 f9)) (.node (some (ent1 f17)) (.node (some (ent3 f33)) .nil .nil) .nil) (.node (some (ent1 f25)) .nil .nil)) (.node (some (ent1 f13)) (.node (some (ent2 f21)) (.node (some (ent3 f37)) .nil .nil) .nil) (.node (some (ent1 f29)) .nil .nil)))) (.node none (.node (some (ent3 f4)) (.node (some (ent0 f8)) (.node (some (ent2 f16)) (.node (some (ent1 f32)) .nil .nil) .nil) (.node (some (ent1 f24)) .nil .nil)) (.node (some (ent1 f12)) (.node (some (ent1 f20)) (.node (some (ent1 f36)) .nil .nil) .nil) (.node (some (ent2 f28)) .nil .nil))) (.node (some (ent2 f6)) (.node (some (ent1 f10)) (.node (some (ent1 f18)) (.node (some (ent3 f34)) .nil .nil) .nil) (.node (some (ent2 f26)) .nil .nil)) (.node (some (ent2 f14)) (.node (some (ent2 f22)) .nil .nil) (.node (some (ent2 f30)) .nil .nil)))))
theorem tab_eq : tabOf ents = tab := rfl
end Go.Sh.Of
