/- The plain forms are the compiled ones: a table of both. -/
import Derived.Test.YtcecdmacoklhpaaCf
import Derived.Test.YtcecdmacoklhpaaPf
set_option maxRecDepth 100000
namespace Go.Sh.Of
open Go
theorem eqt3 (K : Nat) (C : CallC) (a0 a1 a2 : SV) (H : Heap) : runFn3 cf3 K C [a0, a1, a2] H = f3 slowR K C a0 a1 a2 H := by kernel_rfl
theorem eq3 (K : Nat) (C : CallC) (a0 a1 a2 : SV) (H : Heap) : runFn2 cf3 K C [a0, a1, a2] H = f3 slow K C a0 a1 a2 H := (runFn_tw cf3 K C [a0, a1, a2] H).trans (slowR_eq ▸ eqt3 K C a0 a1 a2 H)
theorem eqt4 (K : Nat) (C : CallC) (a0 a1 : SV) (H : Heap) : runFn3 cf4 K C [a0, a1] H = f4 slowR K C a0 a1 H := by kernel_rfl
theorem eq4 (K : Nat) (C : CallC) (a0 a1 : SV) (H : Heap) : runFn2 cf4 K C [a0, a1] H = f4 slow K C a0 a1 H := (runFn_tw cf4 K C [a0, a1] H).trans (slowR_eq ▸ eqt4 K C a0 a1 H)
theorem eqt5 (K : Nat) (C : CallC) (H : Heap) : runFn3 cf5 K C [] H = f5 slowR K C H := by kernel_rfl
theorem eq5 (K : Nat) (C : CallC) (H : Heap) : runFn2 cf5 K C [] H = f5 slow K C H := (runFn_tw cf5 K C [] H).trans (slowR_eq ▸ eqt5 K C H)
theorem eqt6 (K : Nat) (C : CallC) (a0 : SV) (H : Heap) : runFn3 cf6 K C [a0] H = f6 slowR K C a0 H := by kernel_rfl
theorem eq6 (K : Nat) (C : CallC) (a0 : SV) (H : Heap) : runFn2 cf6 K C [a0] H = f6 slow K C a0 H := (runFn_tw cf6 K C [a0] H).trans (slowR_eq ▸ eqt6 K C a0 H)
theorem eqt7 (K : Nat) (C : CallC) (a0 : SV) (H : Heap) : runFn3 cf7 K C [a0] H = f7 slowR K C a0 H := by kernel_rfl
theorem eq7 (K : Nat) (C : CallC) (a0 : SV) (H : Heap) : runFn2 cf7 K C [a0] H = f7 slow K C a0 H := (runFn_tw cf7 K C [a0] H).trans (slowR_eq ▸ eqt7 K C a0 H)
theorem eqt8 (K : Nat) (C : CallC) (a0 : SV) (H : Heap) : runFn3 cf8 K C [a0] H = f8 slowR K C a0 H := by kernel_rfl
theorem eq8 (K : Nat) (C : CallC) (a0 : SV) (H : Heap) : runFn2 cf8 K C [a0] H = f8 slow K C a0 H := (runFn_tw cf8 K C [a0] H).trans (slowR_eq ▸ eqt8 K C a0 H)
theorem eqt9 (K : Nat) (C : CallC) (a0 : SV) (H : Heap) : runFn3 cf9 K C [a0] H = f9 slowR K C a0 H := by kernel_rfl
theorem eq9 (K : Nat) (C : CallC) (a0 : SV) (H : Heap) : runFn2 cf9 K C [a0] H = f9 slow K C a0 H := (runFn_tw cf9 K C [a0] H).trans (slowR_eq ▸ eqt9 K C a0 H)
theorem eqt10 (K : Nat) (C : CallC) (a0 a1 : SV) (H : Heap) : runFn3 cf10 K C [a0, a1] H = f10 slowR K C a0 a1 H := by kernel_rfl
theorem eq10 (K : Nat) (C : CallC) (a0 a1 : SV) (H : Heap) : runFn2 cf10 K C [a0, a1] H = f10 slow K C a0 a1 H := (runFn_tw cf10 K C [a0, a1] H).trans (slowR_eq ▸ eqt10 K C a0 a1 H)
theorem eqt11 (K : Nat) (C : CallC) (a0 : SV) (H : Heap) : runFn3 cf11 K C [a0] H = f11 slowR K C a0 H := by kernel_rfl
theorem eq11 (K : Nat) (C : CallC) (a0 : SV) (H : Heap) : runFn2 cf11 K C [a0] H = f11 slow K C a0 H := (runFn_tw cf11 K C [a0] H).trans (slowR_eq ▸ eqt11 K C a0 H)
theorem eqt12 (K : Nat) (C : CallC) (a0 a1 : SV) (H : Heap) : runFn3 cf12 K C [a0, a1] H = f12 slowR K C a0 a1 H := by kernel_rfl
theorem eq12 (K : Nat) (C : CallC) (a0 a1 : SV) (H : Heap) : runFn2 cf12 K C [a0, a1] H = f12 slow K C a0 a1 H := (runFn_tw cf12 K C [a0, a1] H).trans (slowR_eq ▸ eqt12 K C a0 a1 H)
theorem eqt13 (K : Nat) (C : CallC) (a0 : SV) (H : Heap) : runFn3 cf13 K C [a0] H = f13 slowR K C a0 H := by kernel_rfl
theorem eq13 (K : Nat) (C : CallC) (a0 : SV) (H : Heap) : runFn2 cf13 K C [a0] H = f13 slow K C a0 H := (runFn_tw cf13 K C [a0] H).trans (slowR_eq ▸ eqt13 K C a0 H)
theorem eqt14 (K : Nat) (C : CallC) (a0 : SV) (H : Heap) : runFn3 cf14 K C [a0] H = f14 slowR K C a0 H := by kernel_rfl
theorem eq14 (K : Nat) (C : CallC) (a0 : SV) (H : Heap) : runFn2 cf14 K C [a0] H = f14 slow K C a0 H := (runFn_tw cf14 K C [a0] H).trans (slowR_eq ▸ eqt14 K C a0 H)
theorem eqt15 (K : Nat) (C : CallC) (a0 : SV) (H : Heap) : runFn3 cf15 K C [a0] H = f15 slowR K C a0 H := by kernel_rfl
theorem eq15 (K : Nat) (C : CallC) (a0 : SV) (H : Heap) : runFn2 cf15 K C [a0] H = f15 slow K C a0 H := (runFn_tw cf15 K C [a0] H).trans (slowR_eq ▸ eqt15 K C a0 H)
theorem eqt16 (K : Nat) (C : CallC) (a0 : SV) (H : Heap) : runFn3 cf16 K C [a0] H = f16 slowR K C a0 H := by kernel_rfl
theorem eq16 (K : Nat) (C : CallC) (a0 : SV) (H : Heap) : runFn2 cf16 K C [a0] H = f16 slow K C a0 H := (runFn_tw cf16 K C [a0] H).trans (slowR_eq ▸ eqt16 K C a0 H)
theorem eqt17 (K : Nat) (C : CallC) (a0 : SV) (H : Heap) : runFn3 cf17 K C [a0] H = f17 slowR K C a0 H := by kernel_rfl
theorem eq17 (K : Nat) (C : CallC) (a0 : SV) (H : Heap) : runFn2 cf17 K C [a0] H = f17 slow K C a0 H := (runFn_tw cf17 K C [a0] H).trans (slowR_eq ▸ eqt17 K C a0 H)
theorem eqt18 (K : Nat) (C : CallC) (a0 : SV) (H : Heap) : runFn3 cf18 K C [a0] H = f18 slowR K C a0 H := by kernel_rfl
theorem eq18 (K : Nat) (C : CallC) (a0 : SV) (H : Heap) : runFn2 cf18 K C [a0] H = f18 slow K C a0 H := (runFn_tw cf18 K C [a0] H).trans (slowR_eq ▸ eqt18 K C a0 H)
theorem eqt19 (K : Nat) (C : CallC) (a0 a1 : SV) (H : Heap) : runFn3 cf19 K C [a0, a1] H = f19 slowR K C a0 a1 H := by kernel_rfl
theorem eq19 (K : Nat) (C : CallC) (a0 a1 : SV) (H : Heap) : runFn2 cf19 K C [a0, a1] H = f19 slow K C a0 a1 H := (runFn_tw cf19 K C [a0, a1] H).trans (slowR_eq ▸ eqt19 K C a0 a1 H)
theorem eqt20 (K : Nat) (C : CallC) (a0 : SV) (H : Heap) : runFn3 cf20 K C [a0] H = f20 slowR K C a0 H := by kernel_rfl
theorem eq20 (K : Nat) (C : CallC) (a0 : SV) (H : Heap) : runFn2 cf20 K C [a0] H = f20 slow K C a0 H := (runFn_tw cf20 K C [a0] H).trans (slowR_eq ▸ eqt20 K C a0 H)
theorem eqt21 (K : Nat) (C : CallC) (a0 : SV) (H : Heap) : runFn3 cf21 K C [a0] H = f21 slowR K C a0 H := by kernel_rfl
theorem eq21 (K : Nat) (C : CallC) (a0 : SV) (H : Heap) : runFn2 cf21 K C [a0] H = f21 slow K C a0 H := (runFn_tw cf21 K C [a0] H).trans (slowR_eq ▸ eqt21 K C a0 H)
theorem eqt22 (K : Nat) (C : CallC) (a0 a1 a2 : SV) (H : Heap) : runFn3 cf22 K C [a0, a1, a2] H = f22 slowR K C a0 a1 a2 H := by kernel_rfl
theorem eq22 (K : Nat) (C : CallC) (a0 a1 a2 : SV) (H : Heap) : runFn2 cf22 K C [a0, a1, a2] H = f22 slow K C a0 a1 a2 H := (runFn_tw cf22 K C [a0, a1, a2] H).trans (slowR_eq ▸ eqt22 K C a0 a1 a2 H)
theorem eqt23 (K : Nat) (C : CallC) (a0 : SV) (H : Heap) : runFn3 cf23 K C [a0] H = f23 slowR K C a0 H := by kernel_rfl
theorem eq23 (K : Nat) (C : CallC) (a0 : SV) (H : Heap) : runFn2 cf23 K C [a0] H = f23 slow K C a0 H := (runFn_tw cf23 K C [a0] H).trans (slowR_eq ▸ eqt23 K C a0 H)
theorem eqt24 (K : Nat) (C : CallC) (a0 : SV) (H : Heap) : runFn3 cf24 K C [a0] H = f24 slowR K C a0 H := by kernel_rfl
theorem eq24 (K : Nat) (C : CallC) (a0 : SV) (H : Heap) : runFn2 cf24 K C [a0] H = f24 slow K C a0 H := (runFn_tw cf24 K C [a0] H).trans (slowR_eq ▸ eqt24 K C a0 H)
theorem eqt25 (K : Nat) (C : CallC) (a0 : SV) (H : Heap) : runFn3 cf25 K C [a0] H = f25 slowR K C a0 H := by kernel_rfl
theorem eq25 (K : Nat) (C : CallC) (a0 : SV) (H : Heap) : runFn2 cf25 K C [a0] H = f25 slow K C a0 H := (runFn_tw cf25 K C [a0] H).trans (slowR_eq ▸ eqt25 K C a0 H)
theorem eqt26 (K : Nat) (C : CallC) (a0 a1 : SV) (H : Heap) : runFn3 cf26 K C [a0, a1] H = f26 slowR K C a0 a1 H := by kernel_rfl
theorem eq26 (K : Nat) (C : CallC) (a0 a1 : SV) (H : Heap) : runFn2 cf26 K C [a0, a1] H = f26 slow K C a0 a1 H := (runFn_tw cf26 K C [a0, a1] H).trans (slowR_eq ▸ eqt26 K C a0 a1 H)
theorem eqt27 (K : Nat) (C : CallC) (a0 : SV) (H : Heap) : runFn3 cf27 K C [a0] H = f27 slowR K C a0 H := by kernel_rfl
theorem eq27 (K : Nat) (C : CallC) (a0 : SV) (H : Heap) : runFn2 cf27 K C [a0] H = f27 slow K C a0 H := (runFn_tw cf27 K C [a0] H).trans (slowR_eq ▸ eqt27 K C a0 H)
theorem eqt28 (K : Nat) (C : CallC) (a0 : SV) (H : Heap) : runFn3 cf28 K C [a0] H = f28 slowR K C a0 H := by kernel_rfl
theorem eq28 (K : Nat) (C : CallC) (a0 : SV) (H : Heap) : runFn2 cf28 K C [a0] H = f28 slow K C a0 H := (runFn_tw cf28 K C [a0] H).trans (slowR_eq ▸ eqt28 K C a0 H)
theorem eqt29 (K : Nat) (C : CallC) (a0 : SV) (H : Heap) : runFn3 cf29 K C [a0] H = f29 slowR K C a0 H := by kernel_rfl
theorem eq29 (K : Nat) (C : CallC) (a0 : SV) (H : Heap) : runFn2 cf29 K C [a0] H = f29 slow K C a0 H := (runFn_tw cf29 K C [a0] H).trans (slowR_eq ▸ eqt29 K C a0 H)
theorem eqt30 (K : Nat) (C : CallC) (a0 a1 a2 : SV) (H : Heap) : runFn3 cf30 K C [a0, a1, a2] H = f30 slowR K C a0 a1 a2 H := by kernel_rfl
theorem eq30 (K : Nat) (C : CallC) (a0 a1 a2 : SV) (H : Heap) : runFn2 cf30 K C [a0, a1, a2] H = f30 slow K C a0 a1 a2 H := (runFn_tw cf30 K C [a0, a1, a2] H).trans (slowR_eq ▸ eqt30 K C a0 a1 a2 H)
theorem eqt31 (K : Nat) (C : CallC) (a0 a1 a2 a3 : SV) (H : Heap) : runFn3 cf31 K C [a0, a1, a2, a3] H = f31 slowR K C a0 a1 a2 a3 H := by kernel_rfl
theorem eq31 (K : Nat) (C : CallC) (a0 a1 a2 a3 : SV) (H : Heap) : runFn2 cf31 K C [a0, a1, a2, a3] H = f31 slow K C a0 a1 a2 a3 H := (runFn_tw cf31 K C [a0, a1, a2, a3] H).trans (slowR_eq ▸ eqt31 K C a0 a1 a2 a3 H)
theorem eqt32 (K : Nat) (C : CallC) (a0 : SV) (H : Heap) : runFn3 cf32 K C [a0] H = f32 slowR K C a0 H := by kernel_rfl
theorem eq32 (K : Nat) (C : CallC) (a0 : SV) (H : Heap) : runFn2 cf32 K C [a0] H = f32 slow K C a0 H := (runFn_tw cf32 K C [a0] H).trans (slowR_eq ▸ eqt32 K C a0 H)
theorem eqt33 (K : Nat) (C : CallC) (a0 : SV) (H : Heap) : runFn3 cf33 K C [a0] H = f33 slowR K C a0 H := by kernel_rfl
theorem eq33 (K : Nat) (C : CallC) (a0 : SV) (H : Heap) : runFn2 cf33 K C [a0] H = f33 slow K C a0 H := (runFn_tw cf33 K C [a0] H).trans (slowR_eq ▸ eqt33 K C a0 H)
theorem eqt34 (K : Nat) (C : CallC) (a0 : SV) (H : Heap) : runFn3 cf34 K C [a0] H = f34 slowR K C a0 H := by kernel_rfl
theorem eq34 (K : Nat) (C : CallC) (a0 : SV) (H : Heap) : runFn2 cf34 K C [a0] H = f34 slow K C a0 H := (runFn_tw cf34 K C [a0] H).trans (slowR_eq ▸ eqt34 K C a0 H)
theorem eqt35 (K : Nat) (C : CallC) (a0 a1 : SV) (H : Heap) : runFn3 cf35 K C [a0, a1] H = f35 slowR K C a0 a1 H := by kernel_rfl
theorem eq35 (K : Nat) (C : CallC) (a0 a1 : SV) (H : Heap) : runFn2 cf35 K C [a0, a1] H = f35 slow K C a0 a1 H := (runFn_tw cf35 K C [a0, a1] H).trans (slowR_eq ▸ eqt35 K C a0 a1 H)
theorem eqt36 (K : Nat) (C : CallC) (a0 a1 : SV) (H : Heap) : runFn3 cf36 K C [a0, a1] H = f36 slowR K C a0 a1 H := by kernel_rfl
theorem eq36 (K : Nat) (C : CallC) (a0 a1 : SV) (H : Heap) : runFn2 cf36 K C [a0, a1] H = f36 slow K C a0 a1 H := (runFn_tw cf36 K C [a0, a1] H).trans (slowR_eq ▸ eqt36 K C a0 a1 H)
theorem eqt37 (K : Nat) (C : CallC) (a0 : SV) (H : Heap) : runFn3 cf37 K C [a0] H = f37 slowR K C a0 H := by kernel_rfl
theorem eq37 (K : Nat) (C : CallC) (a0 : SV) (H : Heap) : runFn2 cf37 K C [a0] H = f37 slow K C a0 H := (runFn_tw cf37 K C [a0] H).trans (slowR_eq ▸ eqt37 K C a0 H)
theorem eqt38 (K : Nat) (C : CallC) (a0 a1 a2 : SV) (H : Heap) : runFn3 cf38 K C [a0, a1, a2] H = f38 slowR K C a0 a1 a2 H := by kernel_rfl
theorem eq38 (K : Nat) (C : CallC) (a0 a1 a2 : SV) (H : Heap) : runFn2 cf38 K C [a0, a1, a2] H = f38 slow K C a0 a1 a2 H := (runFn_tw cf38 K C [a0, a1, a2] H).trans (slowR_eq ▸ eqt38 K C a0 a1 a2 H)
theorem eqt39 (K : Nat) (C : CallC) (a0 : SV) (H : Heap) : runFn3 cf39 K C [a0] H = f39 slowR K C a0 H := by kernel_rfl
theorem eq39 (K : Nat) (C : CallC) (a0 : SV) (H : Heap) : runFn2 cf39 K C [a0] H = f39 slow K C a0 H := (runFn_tw cf39 K C [a0] H).trans (slowR_eq ▸ eqt39 K C a0 H)
theorem eqt40 (K : Nat) (C : CallC) (a0 a1 : SV) (H : Heap) : runFn3 cf40 K C [a0, a1] H = f40 slowR K C a0 a1 H := by kernel_rfl
theorem eq40 (K : Nat) (C : CallC) (a0 a1 : SV) (H : Heap) : runFn2 cf40 K C [a0, a1] H = f40 slow K C a0 a1 H := (runFn_tw cf40 K C [a0, a1] H).trans (slowR_eq ▸ eqt40 K C a0 a1 H)
theorem eqt41 (K : Nat) (C : CallC) (a0 a1 a2 a3 a4 : SV) (H : Heap) : runFn3 cf41 K C [a0, a1, a2, a3, a4] H = f41 slowR K C a0 a1 a2 a3 a4 H := by kernel_rfl
theorem eq41 (K : Nat) (C : CallC) (a0 a1 a2 a3 a4 : SV) (H : Heap) : runFn2 cf41 K C [a0, a1, a2, a3, a4] H = f41 slow K C a0 a1 a2 a3 a4 H := (runFn_tw cf41 K C [a0, a1, a2, a3, a4] H).trans (slowR_eq ▸ eqt41 K C a0 a1 a2 a3 a4 H)
theorem eqt42 (K : Nat) (C : CallC) (a0 a1 a2 a3 a4 a5 : SV) (H : Heap) : runFn3 cf42 K C [a0, a1, a2, a3, a4, a5] H = f42 slowR K C a0 a1 a2 a3 a4 a5 H := by kernel_rfl
theorem eq42 (K : Nat) (C : CallC) (a0 a1 a2 a3 a4 a5 : SV) (H : Heap) : runFn2 cf42 K C [a0, a1, a2, a3, a4, a5] H = f42 slow K C a0 a1 a2 a3 a4 a5 H := (runFn_tw cf42 K C [a0, a1, a2, a3, a4, a5] H).trans (slowR_eq ▸ eqt42 K C a0 a1 a2 a3 a4 a5 H)
theorem eqt43 (K : Nat) (C : CallC) (a0 : SV) (H : Heap) : runFn3 cf43 K C [a0] H = f43 slowR K C a0 H := by kernel_rfl
theorem eq43 (K : Nat) (C : CallC) (a0 : SV) (H : Heap) : runFn2 cf43 K C [a0] H = f43 slow K C a0 H := (runFn_tw cf43 K C [a0] H).trans (slowR_eq ▸ eqt43 K C a0 H)
theorem eqt44 (K : Nat) (C : CallC) (a0 a1 a2 : SV) (H : Heap) : runFn3 cf44 K C [a0, a1, a2] H = f44 slowR K C a0 a1 a2 H := by kernel_rfl
theorem eq44 (K : Nat) (C : CallC) (a0 a1 a2 : SV) (H : Heap) : runFn2 cf44 K C [a0, a1, a2] H = f44 slow K C a0 a1 a2 H := (runFn_tw cf44 K C [a0, a1, a2] H).trans (slowR_eq ▸ eqt44 K C a0 a1 a2 H)
theorem eqt45 (K : Nat) (C : CallC) (a0 a1 a2 a3 a4 : SV) (H : Heap) : runFn3 cf45 K C [a0, a1, a2, a3, a4] H = f45 slowR K C a0 a1 a2 a3 a4 H := by kernel_rfl
theorem eq45 (K : Nat) (C : CallC) (a0 a1 a2 a3 a4 : SV) (H : Heap) : runFn2 cf45 K C [a0, a1, a2, a3, a4] H = f45 slow K C a0 a1 a2 a3 a4 H := (runFn_tw cf45 K C [a0, a1, a2, a3, a4] H).trans (slowR_eq ▸ eqt45 K C a0 a1 a2 a3 a4 H)
theorem eqt46 (K : Nat) (C : CallC) (a0 a1 : SV) (H : Heap) : runFn3 cf46 K C [a0, a1] H = f46 slowR K C a0 a1 H := by kernel_rfl
theorem eq46 (K : Nat) (C : CallC) (a0 a1 : SV) (H : Heap) : runFn2 cf46 K C [a0, a1] H = f46 slow K C a0 a1 H := (runFn_tw cf46 K C [a0, a1] H).trans (slowR_eq ▸ eqt46 K C a0 a1 H)
theorem eqt47 (K : Nat) (C : CallC) (a0 a1 : SV) (H : Heap) : runFn3 cf47 K C [a0, a1] H = f47 slowR K C a0 a1 H := by kernel_rfl
theorem eq47 (K : Nat) (C : CallC) (a0 a1 : SV) (H : Heap) : runFn2 cf47 K C [a0, a1] H = f47 slow K C a0 a1 H := (runFn_tw cf47 K C [a0, a1] H).trans (slowR_eq ▸ eqt47 K C a0 a1 H)
theorem eqt48 (K : Nat) (C : CallC) (a0 a1 a2 : SV) (H : Heap) : runFn3 cf48 K C [a0, a1, a2] H = f48 slowR K C a0 a1 a2 H := by kernel_rfl
theorem eq48 (K : Nat) (C : CallC) (a0 a1 a2 : SV) (H : Heap) : runFn2 cf48 K C [a0, a1, a2] H = f48 slow K C a0 a1 a2 H := (runFn_tw cf48 K C [a0, a1, a2] H).trans (slowR_eq ▸ eqt48 K C a0 a1 a2 H)
theorem eqt49 (K : Nat) (C : CallC) (a0 a1 : SV) (H : Heap) : runFn3 cf49 K C [a0, a1] H = f49 slowR K C a0 a1 H := by kernel_rfl
theorem eq49 (K : Nat) (C : CallC) (a0 a1 : SV) (H : Heap) : runFn2 cf49 K C [a0, a1] H = f49 slow K C a0 a1 H := (runFn_tw cf49 K C [a0, a1] H).trans (slowR_eq ▸ eqt49 K C a0 a1 H)
theorem eqt50 (K : Nat) (C : CallC) (a0 : SV) (H : Heap) : runFn3 cf50 K C [a0] H = f50 slowR K C a0 H := by kernel_rfl
theorem eq50 (K : Nat) (C : CallC) (a0 : SV) (H : Heap) : runFn2 cf50 K C [a0] H = f50 slow K C a0 H := (runFn_tw cf50 K C [a0] H).trans (slowR_eq ▸ eqt50 K C a0 H)
theorem eqt51 (K : Nat) (C : CallC) (a0 a1 : SV) (H : Heap) : runFn3 cf51 K C [a0, a1] H = f51 slowR K C a0 a1 H := by kernel_rfl
theorem eq51 (K : Nat) (C : CallC) (a0 a1 : SV) (H : Heap) : runFn2 cf51 K C [a0, a1] H = f51 slow K C a0 a1 H := (runFn_tw cf51 K C [a0, a1] H).trans (slowR_eq ▸ eqt51 K C a0 a1 H)
theorem eqt52 (K : Nat) (C : CallC) (a0 : SV) (H : Heap) : runFn3 cf52 K C [a0] H = f52 slowR K C a0 H := by kernel_rfl
theorem eq52 (K : Nat) (C : CallC) (a0 : SV) (H : Heap) : runFn2 cf52 K C [a0] H = f52 slow K C a0 H := (runFn_tw cf52 K C [a0] H).trans (slowR_eq ▸ eqt52 K C a0 H)
theorem eqt53 (K : Nat) (C : CallC) (a0 a1 a2 : SV) (H : Heap) : runFn3 cf53 K C [a0, a1, a2] H = f53 slowR K C a0 a1 a2 H := by kernel_rfl
theorem eq53 (K : Nat) (C : CallC) (a0 a1 a2 : SV) (H : Heap) : runFn2 cf53 K C [a0, a1, a2] H = f53 slow K C a0 a1 a2 H := (runFn_tw cf53 K C [a0, a1, a2] H).trans (slowR_eq ▸ eqt53 K C a0 a1 a2 H)
theorem eqt54 (K : Nat) (C : CallC) (a0 : SV) (H : Heap) : runFn3 cf54 K C [a0] H = f54 slowR K C a0 H := by kernel_rfl
theorem eq54 (K : Nat) (C : CallC) (a0 : SV) (H : Heap) : runFn2 cf54 K C [a0] H = f54 slow K C a0 H := (runFn_tw cf54 K C [a0] H).trans (slowR_eq ▸ eqt54 K C a0 H)
theorem eqt55 (K : Nat) (C : CallC) (a0 a1 : SV) (H : Heap) : runFn3 cf55 K C [a0, a1] H = f55 slowR K C a0 a1 H := by kernel_rfl
theorem eq55 (K : Nat) (C : CallC) (a0 a1 : SV) (H : Heap) : runFn2 cf55 K C [a0, a1] H = f55 slow K C a0 a1 H := (runFn_tw cf55 K C [a0, a1] H).trans (slowR_eq ▸ eqt55 K C a0 a1 H)
theorem eqt56 (K : Nat) (C : CallC) (a0 a1 : SV) (H : Heap) : runFn3 cf56 K C [a0, a1] H = f56 slowR K C a0 a1 H := by kernel_rfl
theorem eq56 (K : Nat) (C : CallC) (a0 a1 : SV) (H : Heap) : runFn2 cf56 K C [a0, a1] H = f56 slow K C a0 a1 H := (runFn_tw cf56 K C [a0, a1] H).trans (slowR_eq ▸ eqt56 K C a0 a1 H)
theorem eqt57 (K : Nat) (C : CallC) (a0 : SV) (H : Heap) : runFn3 cf57 K C [a0] H = f57 slowR K C a0 H := by kernel_rfl
theorem eq57 (K : Nat) (C : CallC) (a0 : SV) (H : Heap) : runFn2 cf57 K C [a0] H = f57 slow K C a0 H := (runFn_tw cf57 K C [a0] H).trans (slowR_eq ▸ eqt57 K C a0 H)
theorem eqt58 (K : Nat) (C : CallC) (a0 : SV) (H : Heap) : runFn3 cf58 K C [a0] H = f58 slowR K C a0 H := by kernel_rfl
theorem eq58 (K : Nat) (C : CallC) (a0 : SV) (H : Heap) : runFn2 cf58 K C [a0] H = f58 slow K C a0 H := (runFn_tw cf58 K C [a0] H).trans (slowR_eq ▸ eqt58 K C a0 H)
theorem eqt59 (K : Nat) (C : CallC) (a0 : SV) (H : Heap) : runFn3 cf59 K C [a0] H = f59 slowR K C a0 H := by kernel_rfl
theorem eq59 (K : Nat) (C : CallC) (a0 : SV) (H : Heap) : runFn2 cf59 K C [a0] H = f59 slow K C a0 H := (runFn_tw cf59 K C [a0] H).trans (slowR_eq ▸ eqt59 K C a0 H)
theorem eqt60 (K : Nat) (C : CallC) (a0 a1 a2 a3 : SV) (H : Heap) : runFn3 cf60 K C [a0, a1, a2, a3] H = f60 slowR K C a0 a1 a2 a3 H := by kernel_rfl
theorem eq60 (K : Nat) (C : CallC) (a0 a1 a2 a3 : SV) (H : Heap) : runFn2 cf60 K C [a0, a1, a2, a3] H = f60 slow K C a0 a1 a2 a3 H := (runFn_tw cf60 K C [a0, a1, a2, a3] H).trans (slowR_eq ▸ eqt60 K C a0 a1 a2 a3 H)
theorem eqt61 (K : Nat) (C : CallC) (a0 a1 : SV) (H : Heap) : runFn3 cf61 K C [a0, a1] H = f61 slowR K C a0 a1 H := by kernel_rfl
theorem eq61 (K : Nat) (C : CallC) (a0 a1 : SV) (H : Heap) : runFn2 cf61 K C [a0, a1] H = f61 slow K C a0 a1 H := (runFn_tw cf61 K C [a0, a1] H).trans (slowR_eq ▸ eqt61 K C a0 a1 H)
theorem eqt62 (K : Nat) (C : CallC) (a0 a1 : SV) (H : Heap) : runFn3 cf62 K C [a0, a1] H = f62 slowR K C a0 a1 H := by kernel_rfl
theorem eq62 (K : Nat) (C : CallC) (a0 a1 : SV) (H : Heap) : runFn2 cf62 K C [a0, a1] H = f62 slow K C a0 a1 H := (runFn_tw cf62 K C [a0, a1] H).trans (slowR_eq ▸ eqt62 K C a0 a1 H)
theorem eqt63 (K : Nat) (C : CallC) (a0 a1 : SV) (H : Heap) : runFn3 cf63 K C [a0, a1] H = f63 slowR K C a0 a1 H := by kernel_rfl
theorem eq63 (K : Nat) (C : CallC) (a0 a1 : SV) (H : Heap) : runFn2 cf63 K C [a0, a1] H = f63 slow K C a0 a1 H := (runFn_tw cf63 K C [a0, a1] H).trans (slowR_eq ▸ eqt63 K C a0 a1 H)
theorem eqt64 (K : Nat) (C : CallC) (a0 : SV) (H : Heap) : runFn3 cf64 K C [a0] H = f64 slowR K C a0 H := by kernel_rfl
theorem eq64 (K : Nat) (C : CallC) (a0 : SV) (H : Heap) : runFn2 cf64 K C [a0] H = f64 slow K C a0 H := (runFn_tw cf64 K C [a0] H).trans (slowR_eq ▸ eqt64 K C a0 H)
theorem eqt65 (K : Nat) (C : CallC) (a0 a1 : SV) (H : Heap) : runFn3 cf65 K C [a0, a1] H = f65 slowR K C a0 a1 H := by kernel_rfl
theorem eq65 (K : Nat) (C : CallC) (a0 a1 : SV) (H : Heap) : runFn2 cf65 K C [a0, a1] H = f65 slow K C a0 a1 H := (runFn_tw cf65 K C [a0, a1] H).trans (slowR_eq ▸ eqt65 K C a0 a1 H)
theorem eqt66 (K : Nat) (C : CallC) (a0 : SV) (H : Heap) : runFn3 cf66 K C [a0] H = f66 slowR K C a0 H := by kernel_rfl
theorem eq66 (K : Nat) (C : CallC) (a0 : SV) (H : Heap) : runFn2 cf66 K C [a0] H = f66 slow K C a0 H := (runFn_tw cf66 K C [a0] H).trans (slowR_eq ▸ eqt66 K C a0 H)
theorem eqt67 (K : Nat) (C : CallC) (a0 a1 : SV) (H : Heap) : runFn3 cf67 K C [a0, a1] H = f67 slowR K C a0 a1 H := by kernel_rfl
theorem eq67 (K : Nat) (C : CallC) (a0 a1 : SV) (H : Heap) : runFn2 cf67 K C [a0, a1] H = f67 slow K C a0 a1 H := (runFn_tw cf67 K C [a0, a1] H).trans (slowR_eq ▸ eqt67 K C a0 a1 H)
theorem eqt68 (K : Nat) (C : CallC) (a0 a1 : SV) (H : Heap) : runFn3 cf68 K C [a0, a1] H = f68 slowR K C a0 a1 H := by kernel_rfl
theorem eq68 (K : Nat) (C : CallC) (a0 a1 : SV) (H : Heap) : runFn2 cf68 K C [a0, a1] H = f68 slow K C a0 a1 H := (runFn_tw cf68 K C [a0, a1] H).trans (slowR_eq ▸ eqt68 K C a0 a1 H)
theorem eqt69 (K : Nat) (C : CallC) (a0 a1 a2 : SV) (H : Heap) : runFn3 cf69 K C [a0, a1, a2] H = f69 slowR K C a0 a1 a2 H := by kernel_rfl
theorem eq69 (K : Nat) (C : CallC) (a0 a1 a2 : SV) (H : Heap) : runFn2 cf69 K C [a0, a1, a2] H = f69 slow K C a0 a1 a2 H := (runFn_tw cf69 K C [a0, a1, a2] H).trans (slowR_eq ▸ eqt69 K C a0 a1 a2 H)
theorem eqt70 (K : Nat) (C : CallC) (a0 a1 : SV) (H : Heap) : runFn3 cf70 K C [a0, a1] H = f70 slowR K C a0 a1 H := by kernel_rfl
theorem eq70 (K : Nat) (C : CallC) (a0 a1 : SV) (H : Heap) : runFn2 cf70 K C [a0, a1] H = f70 slow K C a0 a1 H := (runFn_tw cf70 K C [a0, a1] H).trans (slowR_eq ▸ eqt70 K C a0 a1 H)
theorem eqt71 (K : Nat) (C : CallC) (a0 : SV) (H : Heap) : runFn3 cf71 K C [a0] H = f71 slowR K C a0 H := by kernel_rfl
theorem eq71 (K : Nat) (C : CallC) (a0 : SV) (H : Heap) : runFn2 cf71 K C [a0] H = f71 slow K C a0 H := (runFn_tw cf71 K C [a0] H).trans (slowR_eq ▸ eqt71 K C a0 H)
theorem eqt72 (K : Nat) (C : CallC) (a0 a1 a2 : SV) (H : Heap) : runFn3 cf72 K C [a0, a1, a2] H = f72 slowR K C a0 a1 a2 H := by kernel_rfl
theorem eq72 (K : Nat) (C : CallC) (a0 a1 a2 : SV) (H : Heap) : runFn2 cf72 K C [a0, a1, a2] H = f72 slow K C a0 a1 a2 H := (runFn_tw cf72 K C [a0, a1, a2] H).trans (slowR_eq ▸ eqt72 K C a0 a1 a2 H)
theorem eqt73 (K : Nat) (C : CallC) (a0 a1 a2 : SV) (H : Heap) : runFn3 cf73 K C [a0, a1, a2] H = f73 slowR K C a0 a1 a2 H := by kernel_rfl
theorem eq73 (K : Nat) (C : CallC) (a0 a1 a2 : SV) (H : Heap) : runFn2 cf73 K C [a0, a1, a2] H = f73 slow K C a0 a1 a2 H := (runFn_tw cf73 K C [a0, a1, a2] H).trans (slowR_eq ▸ eqt73 K C a0 a1 a2 H)
theorem eqt74 (K : Nat) (C : CallC) (a0 a1 : SV) (H : Heap) : runFn3 cf74 K C [a0, a1] H = f74 slowR K C a0 a1 H := by kernel_rfl
theorem eq74 (K : Nat) (C : CallC) (a0 a1 : SV) (H : Heap) : runFn2 cf74 K C [a0, a1] H = f74 slow K C a0 a1 H := (runFn_tw cf74 K C [a0, a1] H).trans (slowR_eq ▸ eqt74 K C a0 a1 H)
def ents : EL := [(3, cf3, ent3 f3), (4, cf4, ent2 f4), (5, cf5, ent0 f5), (6, cf6, ent1 f6), (7, cf7, ent1 f7), (8, cf8, ent1 f8), (9, cf9, ent1 f9), (10, cf10, ent2 f10), (11, cf11, ent1 f11), (12, cf12, ent2 f12), (13, cf13, ent1 f13), (14, cf14, ent1 f14), (15, cf15, ent1 f15), (16, cf16, ent1 f16), (17, cf17, ent1 f17), (18, cf18, ent1 f18), (19, cf19, ent2 f19), (20, cf20, ent1 f20), (21, cf21, ent1 f21), (22, cf22, ent3 f22), (23, cf23, ent1 f23), (24, cf24, ent1 f24), (25, cf25, ent1 f25), (26, cf26, ent2 f26), (27, cf27, ent1 f27), (28, cf28, ent1 f28), (29, cf29, ent1 f29), (30, cf30, ent3 f30), (31, cf31, ent4 f31), (32, cf32, ent1 f32), (33, cf33, ent1 f33), (34, cf34, ent1 f34), (35, cf35, ent2 f35), (36, cf36, ent2 f36), (37, cf37, ent1 f37), (38, cf38, ent3 f38), (39, cf39, ent1 f39), (40, cf40, ent2 f40), (41, cf41, ent5 f41), (42, cf42, ent6 f42), (43, cf43, ent1 f43), (44, cf44, ent3 f44), (45, cf45, ent5 f45), (46, cf46, ent2 f46), (47, cf47, ent2 f47), (48, cf48, ent3 f48), (49, cf49, ent2 f49), (50, cf50, ent1 f50), (51, cf51, ent2 f51), (52, cf52, ent1 f52), (53, cf53, ent3 f53), (54, cf54, ent1 f54), (55, cf55, ent2 f55), (56, cf56, ent2 f56), (57, cf57, ent1 f57), (58, cf58, ent1 f58), (59, cf59, ent1 f59), (60, cf60, ent4 f60), (61, cf61, ent2 f61), (62, cf62, ent2 f62), (63, cf63, ent2 f63), (64, cf64, ent1 f64), (65, cf65, ent2 f65), (66, cf66, ent1 f66), (67, cf67, ent2 f67), (68, cf68, ent2 f68), (69, cf69, ent3 f69), (70, cf70, ent2 f70), (71, cf71, ent1 f71), (72, cf72, ent3 f72), (73, cf73, ent3 f73), (74, cf74, ent2 f74)]
theorem entsOk : AllOk ents := ⟨EntOk.of3 (fun K C a0 a1 a2 H => eq3 K C a0 a1 a2 H), ⟨EntOk.of2 (fun K C a0 a1 H => eq4 K C a0 a1 H), ⟨EntOk.of0 (fun K C H => eq5 K C H), ⟨EntOk.of1 (fun K C a0 H => eq6 K C a0 H), ⟨EntOk.of1 (fun K C a0 H => eq7 K C a0 H), ⟨EntOk.of1 (fun K C a0 H => eq8 K C a0 H), ⟨EntOk.of1 (fun K C a0 H => eq9 K C a0 H), ⟨EntOk.of2 (fun K C a0 a1 H => eq10 K C a0 a1 H), ⟨EntOk.of1 (fun K C a0 H => eq11 K C a0 H), ⟨EntOk.of2 (fun K C a0 a1 H => eq12 K C a0 a1 H), ⟨EntOk.of1 (fun K C a0 H => eq13 K C a0 H), ⟨EntOk.of1 (fun K C a0 H => eq14 K C a0 H), ⟨EntOk.of1 (fun K C a0 H => eq15 K C a0 H), ⟨EntOk.of1 (fun K C a0 H => eq16 K C a0 H), ⟨EntOk.of1 (fun K C a0 H => eq17 K C a0 H), ⟨EntOk.of1 (fun K C a0 H => eq18 K C a0 H), ⟨EntOk.of2 (fun K C a0 a1 H => eq19 K C a0 a1 H), ⟨EntOk.of1 (fun K C a0 H => eq20 K C a0 H), ⟨EntOk.of1 (fun K C a0 H => eq21 K C a0 H), ⟨EntOk.of3 (fun K C a0 a1 a2 H => eq22 K C a0 a1 a2 H), ⟨EntOk.of1 (fun K C a0 H => eq23 K C a0 H), ⟨EntOk.of1 (fun K C a0 H => eq24 K C a0 H), ⟨EntOk.of1 (fun K C a0 H => eq25 K C a0 H), ⟨EntOk.of2 (fun K C a0 a1 H => eq26 K C a0 a1 H), ⟨EntOk.of1 (fun K C a0 H => eq27 K C a0 H), ⟨EntOk.of1 (fun K C a0 H => eq28 K C a0 H), ⟨EntOk.of1 (fun K C a0 H => eq29 K C a0 H), ⟨EntOk.of3 (fun K C a0 a1 a2 H => eq30 K C a0 a1 a2 H), ⟨EntOk.of4 (fun K C a0 a1 a2 a3 H => eq31 K C a0 a1 a2 a3 H), ⟨EntOk.of1 (fun K C a0 H => eq32 K C a0 H), ⟨EntOk.of1 (fun K C a0 H => eq33 K C a0 H), ⟨EntOk.of1 (fun K C a0 H => eq34 K C a0 H), ⟨EntOk.of2 (fun K C a0 a1 H => eq35 K C a0 a1 H), ⟨EntOk.of2 (fun K C a0 a1 H => eq36 K C a0 a1 H), ⟨EntOk.of1 (fun K C a0 H => eq37 K C a0 H), ⟨EntOk.of3 (fun K C a0 a1 a2 H => eq38 K C a0 a1 a2 H), ⟨EntOk.of1 (fun K C a0 H => eq39 K C a0 H), ⟨EntOk.of2 (fun K C a0 a1 H => eq40 K C a0 a1 H), ⟨EntOk.of5 (fun K C a0 a1 a2 a3 a4 H => eq41 K C a0 a1 a2 a3 a4 H), ⟨EntOk.of6 (fun K C a0 a1 a2 a3 a4 a5 H => eq42 K C a0 a1 a2 a3 a4 a5 H), ⟨EntOk.of1 (fun K C a0 H => eq43 K C a0 H), ⟨EntOk.of3 (fun K C a0 a1 a2 H => eq44 K C a0 a1 a2 H), ⟨EntOk.of5 (fun K C a0 a1 a2 a3 a4 H => eq45 K C a0 a1 a2 a3 a4 H), ⟨EntOk.of2 (fun K C a0 a1 H => eq46 K C a0 a1 H), ⟨EntOk.of2 (fun K C a0 a1 H => eq47 K C a0 a1 H), ⟨EntOk.of3 (fun K C a0 a1 a2 H => eq48 K C a0 a1 a2 H), ⟨EntOk.of2 (fun K C a0 a1 H => eq49 K C a0 a1 H), ⟨EntOk.of1 (fun K C a0 H => eq50 K C a0 H), ⟨EntOk.of2 (fun K C a0 a1 H => eq51 K C a0 a1 H), ⟨EntOk.of1 (fun K C a0 H => eq52 K C a0 H), ⟨EntOk.of3 (fun K C a0 a1 a2 H => eq53 K C a0 a1 a2 H), ⟨EntOk.of1 (fun K C a0 H => eq54 K C a0 H), ⟨EntOk.of2 (fun K C a0 a1 H => eq55 K C a0 a1 H), ⟨EntOk.of2 (fun K C a0 a1 H => eq56 K C a0 a1 H), ⟨EntOk.of1 (fun K C a0 H => eq57 K C a0 H), ⟨EntOk.of1 (fun K C a0 H => eq58 K C a0 H), ⟨EntOk.of1 (fun K C a0 H => eq59 K C a0 H), ⟨EntOk.of4 (fun K C a0 a1 a2 a3 H => eq60 K C a0 a1 a2 a3 H), ⟨EntOk.of2 (fun K C a0 a1 H => eq61 K C a0 a1 H), ⟨EntOk.of2 (fun K C a0 a1 H => eq62 K C a0 a1 H), ⟨EntOk.of2 (fun K C a0 a1 H => eq63 K C a0 a1 H), ⟨EntOk.of1 (fun K C a0 H => eq64 K C a0 H), ⟨EntOk.of2 (fun K C a0 a1 H => eq65 K C a0 a1 H), ⟨EntOk.of1 (fun K C a0 H => eq66 K C a0 H), ⟨EntOk.of2 (fun K C a0 a1 H => eq67 K C a0 a1 H), ⟨EntOk.of2 (fun K C a0 a1 H => eq68 K C a0 a1 H), ⟨EntOk.of3 (fun K C a0 a1 a2 H => eq69 K C a0 a1 a2 H), ⟨EntOk.of2 (fun K C a0 a1 H => eq70 K C a0 a1 H), ⟨EntOk.of1 (fun K C a0 H => eq71 K C a0 H), ⟨EntOk.of3 (fun K C a0 a1 a2 H => eq72 K C a0 a1 a2 H), ⟨EntOk.of3 (fun K C a0 a1 a2 H => eq73 K C a0 a1 a2 H), ⟨EntOk.of2 (fun K C a0 a1 H => eq74 K C a0 a1 H), trivial⟩⟩⟩⟩⟩⟩⟩⟩⟩⟩⟩⟩⟩⟩⟩⟩⟩⟩⟩⟩⟩⟩⟩⟩⟩⟩⟩⟩⟩⟩⟩⟩⟩⟩⟩⟩⟩⟩⟩⟩⟩⟩⟩⟩⟩⟩⟩⟩⟩⟩⟩⟩⟩⟩⟩⟩⟩⟩⟩⟩⟩⟩⟩⟩⟩⟩⟩⟩⟩⟩⟩⟩
def tab : BT Ent := (.node none (.node none (.node (some (ent3 f3)) (.node (some (ent1 f7)) (.node (some (ent1 f15)) (.node (some (ent4 f31)) (.node (some (ent2 f63)) .nil .nil) .nil) (.node (some (ent2 f47)) .nil .nil)) (.node (some (ent1 f23)) (.node (some (ent1 f39)) (.node (some (ent1 f71)) .nil .nil) .nil) (.node (some (ent2 f55)) .nil .nil))) (.node (some (ent1 f11)) (.node (some (ent2 f19)) (.node (some (ent2 f35)) (.node (some (ent2 f67)) .nil .nil) .nil) (.node (some (ent2 f51)) .nil .nil)) (.node (some (ent1 f27)) (.node (some (ent1 f43)) .nil .nil) (.node (some (ent1 f59)) .nil .nil)))) (.node (some (ent0 f5)) (.node (some (ent1 f9)) (.node (some (ent1 f17)) (.node (some (ent1 f33)) (.node (some (ent2 f65)) .nil .nil) .nil) (.node (some (ent2 f49)) .nil .nil)) (.node (some (ent1 f25)) (.node (some (ent5 f41)) (.node (some (ent3 f73)) .nil .nil) .nil) (.node (some (ent1 f57)) .nil .nil))) (.node (some (ent1 f13)) (.node (some (ent1 f21)) (.node (some (ent1 f37)) (.node (some (ent3 f69)) .nil .nil) .nil) (.node (some (ent3 f53)) .nil .nil)) (.node (some (ent1 f29)) (.node (some (ent5 f45)) .nil .nil) (.node (some (ent2 f61)) .nil .nil))))) (.node none (.node (some (ent2 f4)) (.node (some (ent1 f8)) (.node (some (ent1 f16)) (.node (some (ent1 f32)) (.node (some (ent1 f64)) .nil .nil) .nil) (.node (some (ent3 f48)) .nil .nil)) (.node (some (ent1 f24)) (.node (some (ent2 f40)) (.node (some (ent3 f72)) .nil .nil) .nil) (.node (some (ent2 f56)) .nil .nil))) (.node (some (ent2 f12)) (.node (some (ent1 f20)) (.node (some (ent2 f36)) (.node (some (ent2 f68)) .nil .nil) .nil) (.node (some (ent1 f52)) .nil .nil)) (.node (some (ent1 f28)) (.node (some (ent3 f44)) .nil .nil) (.node (some (ent4 f60)) .nil .nil)))) (.node (some (ent1 f6)) (.node (some (ent2 f10)) (.node (some (ent1 f18)) (.node (some (ent1 f34)) (.node (some (ent1 f66)) .nil .nil) .nil) (.node (some (ent1 f50)) .nil .nil)) (.node (some (ent2 f26)) (.node (some (ent6 f42)) (.node (some (ent2 f74)) .nil .nil) .nil) (.node (some (ent1 f58)) .nil .nil))) (.node (some (ent1 f14)) (.node (some (ent3 f22)) (.node (some (ent3 f38)) (.node (some (ent2 f70)) .nil .nil) .nil) (.node (some (ent1 f54)) .nil .nil)) (.node (some (ent3 f30)) (.node (some (ent2 f46)) .nil .nil) (.node (some (ent2 f62)) .nil .nil))))))
theorem tab_eq : tabOf ents = tab := rfl
end Go.Sh.Of
