/- The plain forms are the compiled ones: a table of both. -/
import Derived.Test.YtkgbokkeemjkkaaCf
import Derived.Test.YtkgbokkeemjkkaaPf
set_option maxRecDepth 100000
namespace Go.Sh.Of
open Go
theorem eqt8 (K : Nat) (C : CallC) (a0 a1 a2 : SV) (H : Heap) : runFn3 cf8 K C [a0, a1, a2] H = f8 slowR K C a0 a1 a2 H := by kernel_rfl
theorem eq8 (K : Nat) (C : CallC) (a0 a1 a2 : SV) (H : Heap) : runFn2 cf8 K C [a0, a1, a2] H = f8 slow K C a0 a1 a2 H := (runFn_tw cf8 K C [a0, a1, a2] H).trans (slowR_eq ▸ eqt8 K C a0 a1 a2 H)
theorem eqt9 (K : Nat) (C : CallC) (H : Heap) : runFn3 cf9 K C [] H = f9 slowR K C H := by kernel_rfl
theorem eq9 (K : Nat) (C : CallC) (H : Heap) : runFn2 cf9 K C [] H = f9 slow K C H := (runFn_tw cf9 K C [] H).trans (slowR_eq ▸ eqt9 K C H)
theorem eqt10 (K : Nat) (C : CallC) (a0 : SV) (H : Heap) : runFn3 cf10 K C [a0] H = f10 slowR K C a0 H := by kernel_rfl
theorem eq10 (K : Nat) (C : CallC) (a0 : SV) (H : Heap) : runFn2 cf10 K C [a0] H = f10 slow K C a0 H := (runFn_tw cf10 K C [a0] H).trans (slowR_eq ▸ eqt10 K C a0 H)
theorem eqt11 (K : Nat) (C : CallC) (a0 : SV) (H : Heap) : runFn3 cf11 K C [a0] H = f11 slowR K C a0 H := by kernel_rfl
theorem eq11 (K : Nat) (C : CallC) (a0 : SV) (H : Heap) : runFn2 cf11 K C [a0] H = f11 slow K C a0 H := (runFn_tw cf11 K C [a0] H).trans (slowR_eq ▸ eqt11 K C a0 H)
theorem eqt12 (K : Nat) (C : CallC) (a0 : SV) (H : Heap) : runFn3 cf12 K C [a0] H = f12 slowR K C a0 H := by kernel_rfl
theorem eq12 (K : Nat) (C : CallC) (a0 : SV) (H : Heap) : runFn2 cf12 K C [a0] H = f12 slow K C a0 H := (runFn_tw cf12 K C [a0] H).trans (slowR_eq ▸ eqt12 K C a0 H)
theorem eqt13 (K : Nat) (C : CallC) (a0 : SV) (H : Heap) : runFn3 cf13 K C [a0] H = f13 slowR K C a0 H := by kernel_rfl
theorem eq13 (K : Nat) (C : CallC) (a0 : SV) (H : Heap) : runFn2 cf13 K C [a0] H = f13 slow K C a0 H := (runFn_tw cf13 K C [a0] H).trans (slowR_eq ▸ eqt13 K C a0 H)
theorem eqt14 (K : Nat) (C : CallC) (a0 : SV) (H : Heap) : runFn3 cf14 K C [a0] H = f14 slowR K C a0 H := by kernel_rfl
theorem eq14 (K : Nat) (C : CallC) (a0 : SV) (H : Heap) : runFn2 cf14 K C [a0] H = f14 slow K C a0 H := (runFn_tw cf14 K C [a0] H).trans (slowR_eq ▸ eqt14 K C a0 H)
theorem eqt15 (K : Nat) (C : CallC) (a0 a1 : SV) (H : Heap) : runFn3 cf15 K C [a0, a1] H = f15 slowR K C a0 a1 H := by kernel_rfl
theorem eq15 (K : Nat) (C : CallC) (a0 a1 : SV) (H : Heap) : runFn2 cf15 K C [a0, a1] H = f15 slow K C a0 a1 H := (runFn_tw cf15 K C [a0, a1] H).trans (slowR_eq ▸ eqt15 K C a0 a1 H)
theorem eqt16 (K : Nat) (C : CallC) (a0 a1 a2 : SV) (H : Heap) : runFn3 cf16 K C [a0, a1, a2] H = f16 slowR K C a0 a1 a2 H := by kernel_rfl
theorem eq16 (K : Nat) (C : CallC) (a0 a1 a2 : SV) (H : Heap) : runFn2 cf16 K C [a0, a1, a2] H = f16 slow K C a0 a1 a2 H := (runFn_tw cf16 K C [a0, a1, a2] H).trans (slowR_eq ▸ eqt16 K C a0 a1 a2 H)
theorem eqt17 (K : Nat) (C : CallC) (a0 a1 : SV) (H : Heap) : runFn3 cf17 K C [a0, a1] H = f17 slowR K C a0 a1 H := by kernel_rfl
theorem eq17 (K : Nat) (C : CallC) (a0 a1 : SV) (H : Heap) : runFn2 cf17 K C [a0, a1] H = f17 slow K C a0 a1 H := (runFn_tw cf17 K C [a0, a1] H).trans (slowR_eq ▸ eqt17 K C a0 a1 H)
theorem eqt18 (K : Nat) (C : CallC) (a0 : SV) (H : Heap) : runFn3 cf18 K C [a0] H = f18 slowR K C a0 H := by kernel_rfl
theorem eq18 (K : Nat) (C : CallC) (a0 : SV) (H : Heap) : runFn2 cf18 K C [a0] H = f18 slow K C a0 H := (runFn_tw cf18 K C [a0] H).trans (slowR_eq ▸ eqt18 K C a0 H)
theorem eqt19 (K : Nat) (C : CallC) (a0 : SV) (H : Heap) : runFn3 cf19 K C [a0] H = f19 slowR K C a0 H := by kernel_rfl
theorem eq19 (K : Nat) (C : CallC) (a0 : SV) (H : Heap) : runFn2 cf19 K C [a0] H = f19 slow K C a0 H := (runFn_tw cf19 K C [a0] H).trans (slowR_eq ▸ eqt19 K C a0 H)
theorem eqt20 (K : Nat) (C : CallC) (a0 a1 : SV) (H : Heap) : runFn3 cf20 K C [a0, a1] H = f20 slowR K C a0 a1 H := by kernel_rfl
theorem eq20 (K : Nat) (C : CallC) (a0 a1 : SV) (H : Heap) : runFn2 cf20 K C [a0, a1] H = f20 slow K C a0 a1 H := (runFn_tw cf20 K C [a0, a1] H).trans (slowR_eq ▸ eqt20 K C a0 a1 H)
theorem eqt21 (K : Nat) (C : CallC) (a0 a1 : SV) (H : Heap) : runFn3 cf21 K C [a0, a1] H = f21 slowR K C a0 a1 H := by kernel_rfl
theorem eq21 (K : Nat) (C : CallC) (a0 a1 : SV) (H : Heap) : runFn2 cf21 K C [a0, a1] H = f21 slow K C a0 a1 H := (runFn_tw cf21 K C [a0, a1] H).trans (slowR_eq ▸ eqt21 K C a0 a1 H)
theorem eqt22 (K : Nat) (C : CallC) (a0 : SV) (H : Heap) : runFn3 cf22 K C [a0] H = f22 slowR K C a0 H := by kernel_rfl
theorem eq22 (K : Nat) (C : CallC) (a0 : SV) (H : Heap) : runFn2 cf22 K C [a0] H = f22 slow K C a0 H := (runFn_tw cf22 K C [a0] H).trans (slowR_eq ▸ eqt22 K C a0 H)
theorem eqt23 (K : Nat) (C : CallC) (a0 a1 : SV) (H : Heap) : runFn3 cf23 K C [a0, a1] H = f23 slowR K C a0 a1 H := by kernel_rfl
theorem eq23 (K : Nat) (C : CallC) (a0 a1 : SV) (H : Heap) : runFn2 cf23 K C [a0, a1] H = f23 slow K C a0 a1 H := (runFn_tw cf23 K C [a0, a1] H).trans (slowR_eq ▸ eqt23 K C a0 a1 H)
theorem eqt24 (K : Nat) (C : CallC) (a0 : SV) (H : Heap) : runFn3 cf24 K C [a0] H = f24 slowR K C a0 H := by kernel_rfl
theorem eq24 (K : Nat) (C : CallC) (a0 : SV) (H : Heap) : runFn2 cf24 K C [a0] H = f24 slow K C a0 H := (runFn_tw cf24 K C [a0] H).trans (slowR_eq ▸ eqt24 K C a0 H)
theorem eqt25 (K : Nat) (C : CallC) (a0 : SV) (H : Heap) : runFn3 cf25 K C [a0] H = f25 slowR K C a0 H := by kernel_rfl
theorem eq25 (K : Nat) (C : CallC) (a0 : SV) (H : Heap) : runFn2 cf25 K C [a0] H = f25 slow K C a0 H := (runFn_tw cf25 K C [a0] H).trans (slowR_eq ▸ eqt25 K C a0 H)
theorem eqt26 (K : Nat) (C : CallC) (a0 a1 : SV) (H : Heap) : runFn3 cf26 K C [a0, a1] H = f26 slowR K C a0 a1 H := by kernel_rfl
theorem eq26 (K : Nat) (C : CallC) (a0 a1 : SV) (H : Heap) : runFn2 cf26 K C [a0, a1] H = f26 slow K C a0 a1 H := (runFn_tw cf26 K C [a0, a1] H).trans (slowR_eq ▸ eqt26 K C a0 a1 H)
theorem eqt27 (K : Nat) (C : CallC) (a0 a1 : SV) (H : Heap) : runFn3 cf27 K C [a0, a1] H = f27 slowR K C a0 a1 H := by kernel_rfl
theorem eq27 (K : Nat) (C : CallC) (a0 a1 : SV) (H : Heap) : runFn2 cf27 K C [a0, a1] H = f27 slow K C a0 a1 H := (runFn_tw cf27 K C [a0, a1] H).trans (slowR_eq ▸ eqt27 K C a0 a1 H)
theorem eqt28 (K : Nat) (C : CallC) (a0 : SV) (H : Heap) : runFn3 cf28 K C [a0] H = f28 slowR K C a0 H := by kernel_rfl
theorem eq28 (K : Nat) (C : CallC) (a0 : SV) (H : Heap) : runFn2 cf28 K C [a0] H = f28 slow K C a0 H := (runFn_tw cf28 K C [a0] H).trans (slowR_eq ▸ eqt28 K C a0 H)
theorem eqt32 (K : Nat) (C : CallC) (a0 : SV) (H : Heap) : runFn3 cf32 K C [a0] H = f32 slowR K C a0 H := by kernel_rfl
theorem eq32 (K : Nat) (C : CallC) (a0 : SV) (H : Heap) : runFn2 cf32 K C [a0] H = f32 slow K C a0 H := (runFn_tw cf32 K C [a0] H).trans (slowR_eq ▸ eqt32 K C a0 H)
theorem eqt33 (K : Nat) (C : CallC) (a0 : SV) (H : Heap) : runFn3 cf33 K C [a0] H = f33 slowR K C a0 H := by kernel_rfl
theorem eq33 (K : Nat) (C : CallC) (a0 : SV) (H : Heap) : runFn2 cf33 K C [a0] H = f33 slow K C a0 H := (runFn_tw cf33 K C [a0] H).trans (slowR_eq ▸ eqt33 K C a0 H)
theorem eqt37 (K : Nat) (C : CallC) (a0 a1 : SV) (H : Heap) : runFn3 cf37 K C [a0, a1] H = f37 slowR K C a0 a1 H := by kernel_rfl
theorem eq37 (K : Nat) (C : CallC) (a0 a1 : SV) (H : Heap) : runFn2 cf37 K C [a0, a1] H = f37 slow K C a0 a1 H := (runFn_tw cf37 K C [a0, a1] H).trans (slowR_eq ▸ eqt37 K C a0 a1 H)
theorem eqt38 (K : Nat) (C : CallC) (a0 a1 : SV) (H : Heap) : runFn3 cf38 K C [a0, a1] H = f38 slowR K C a0 a1 H := by kernel_rfl
theorem eq38 (K : Nat) (C : CallC) (a0 a1 : SV) (H : Heap) : runFn2 cf38 K C [a0, a1] H = f38 slow K C a0 a1 H := (runFn_tw cf38 K C [a0, a1] H).trans (slowR_eq ▸ eqt38 K C a0 a1 H)
theorem eqt39 (K : Nat) (C : CallC) (a0 a1 : SV) (H : Heap) : runFn3 cf39 K C [a0, a1] H = f39 slowR K C a0 a1 H := by kernel_rfl
theorem eq39 (K : Nat) (C : CallC) (a0 a1 : SV) (H : Heap) : runFn2 cf39 K C [a0, a1] H = f39 slow K C a0 a1 H := (runFn_tw cf39 K C [a0, a1] H).trans (slowR_eq ▸ eqt39 K C a0 a1 H)
theorem eqt40 (K : Nat) (C : CallC) (a0 a1 : SV) (H : Heap) : runFn3 cf40 K C [a0, a1] H = f40 slowR K C a0 a1 H := by kernel_rfl
theorem eq40 (K : Nat) (C : CallC) (a0 a1 : SV) (H : Heap) : runFn2 cf40 K C [a0, a1] H = f40 slow K C a0 a1 H := (runFn_tw cf40 K C [a0, a1] H).trans (slowR_eq ▸ eqt40 K C a0 a1 H)
theorem eqt41 (K : Nat) (C : CallC) (a0 : SV) (H : Heap) : runFn3 cf41 K C [a0] H = f41 slowR K C a0 H := by kernel_rfl
theorem eq41 (K : Nat) (C : CallC) (a0 : SV) (H : Heap) : runFn2 cf41 K C [a0] H = f41 slow K C a0 H := (runFn_tw cf41 K C [a0] H).trans (slowR_eq ▸ eqt41 K C a0 H)
theorem eqt42 (K : Nat) (C : CallC) (a0 a1 : SV) (H : Heap) : runFn3 cf42 K C [a0, a1] H = f42 slowR K C a0 a1 H := by kernel_rfl
theorem eq42 (K : Nat) (C : CallC) (a0 a1 : SV) (H : Heap) : runFn2 cf42 K C [a0, a1] H = f42 slow K C a0 a1 H := (runFn_tw cf42 K C [a0, a1] H).trans (slowR_eq ▸ eqt42 K C a0 a1 H)
theorem eqt43 (K : Nat) (C : CallC) (a0 a1 a2 : SV) (H : Heap) : runFn3 cf43 K C [a0, a1, a2] H = f43 slowR K C a0 a1 a2 H := by kernel_rfl
theorem eq43 (K : Nat) (C : CallC) (a0 a1 a2 : SV) (H : Heap) : runFn2 cf43 K C [a0, a1, a2] H = f43 slow K C a0 a1 a2 H := (runFn_tw cf43 K C [a0, a1, a2] H).trans (slowR_eq ▸ eqt43 K C a0 a1 a2 H)
theorem eqt44 (K : Nat) (C : CallC) (a0 : SV) (H : Heap) : runFn3 cf44 K C [a0] H = f44 slowR K C a0 H := by kernel_rfl
theorem eq44 (K : Nat) (C : CallC) (a0 : SV) (H : Heap) : runFn2 cf44 K C [a0] H = f44 slow K C a0 H := (runFn_tw cf44 K C [a0] H).trans (slowR_eq ▸ eqt44 K C a0 H)
theorem eqt45 (K : Nat) (C : CallC) (a0 a1 a2 a3 : SV) (H : Heap) : runFn3 cf45 K C [a0, a1, a2, a3] H = f45 slowR K C a0 a1 a2 a3 H := by kernel_rfl
theorem eq45 (K : Nat) (C : CallC) (a0 a1 a2 a3 : SV) (H : Heap) : runFn2 cf45 K C [a0, a1, a2, a3] H = f45 slow K C a0 a1 a2 a3 H := (runFn_tw cf45 K C [a0, a1, a2, a3] H).trans (slowR_eq ▸ eqt45 K C a0 a1 a2 a3 H)
theorem eqt46 (K : Nat) (C : CallC) (a0 : SV) (H : Heap) : runFn3 cf46 K C [a0] H = f46 slowR K C a0 H := by kernel_rfl
theorem eq46 (K : Nat) (C : CallC) (a0 : SV) (H : Heap) : runFn2 cf46 K C [a0] H = f46 slow K C a0 H := (runFn_tw cf46 K C [a0] H).trans (slowR_eq ▸ eqt46 K C a0 H)
theorem eqt47 (K : Nat) (C : CallC) (a0 : SV) (H : Heap) : runFn3 cf47 K C [a0] H = f47 slowR K C a0 H := by kernel_rfl
theorem eq47 (K : Nat) (C : CallC) (a0 : SV) (H : Heap) : runFn2 cf47 K C [a0] H = f47 slow K C a0 H := (runFn_tw cf47 K C [a0] H).trans (slowR_eq ▸ eqt47 K C a0 H)
theorem eqt48 (K : Nat) (C : CallC) (a0 : SV) (H : Heap) : runFn3 cf48 K C [a0] H = f48 slowR K C a0 H := by kernel_rfl
theorem eq48 (K : Nat) (C : CallC) (a0 : SV) (H : Heap) : runFn2 cf48 K C [a0] H = f48 slow K C a0 H := (runFn_tw cf48 K C [a0] H).trans (slowR_eq ▸ eqt48 K C a0 H)
theorem eqt49 (K : Nat) (C : CallC) (a0 a1 a2 : SV) (H : Heap) : runFn3 cf49 K C [a0, a1, a2] H = f49 slowR K C a0 a1 a2 H := by kernel_rfl
theorem eq49 (K : Nat) (C : CallC) (a0 a1 a2 : SV) (H : Heap) : runFn2 cf49 K C [a0, a1, a2] H = f49 slow K C a0 a1 a2 H := (runFn_tw cf49 K C [a0, a1, a2] H).trans (slowR_eq ▸ eqt49 K C a0 a1 a2 H)
theorem eqt50 (K : Nat) (C : CallC) (a0 a1 a2 : SV) (H : Heap) : runFn3 cf50 K C [a0, a1, a2] H = f50 slowR K C a0 a1 a2 H := by kernel_rfl
theorem eq50 (K : Nat) (C : CallC) (a0 a1 a2 : SV) (H : Heap) : runFn2 cf50 K C [a0, a1, a2] H = f50 slow K C a0 a1 a2 H := (runFn_tw cf50 K C [a0, a1, a2] H).trans (slowR_eq ▸ eqt50 K C a0 a1 a2 H)
theorem eqt51 (K : Nat) (C : CallC) (a0 : SV) (H : Heap) : runFn3 cf51 K C [a0] H = f51 slowR K C a0 H := by kernel_rfl
theorem eq51 (K : Nat) (C : CallC) (a0 : SV) (H : Heap) : runFn2 cf51 K C [a0] H = f51 slow K C a0 H := (runFn_tw cf51 K C [a0] H).trans (slowR_eq ▸ eqt51 K C a0 H)
theorem eqt52 (K : Nat) (C : CallC) (a0 : SV) (H : Heap) : runFn3 cf52 K C [a0] H = f52 slowR K C a0 H := by kernel_rfl
theorem eq52 (K : Nat) (C : CallC) (a0 : SV) (H : Heap) : runFn2 cf52 K C [a0] H = f52 slow K C a0 H := (runFn_tw cf52 K C [a0] H).trans (slowR_eq ▸ eqt52 K C a0 H)
theorem eqt53 (K : Nat) (C : CallC) (a0 a1 a2 : SV) (H : Heap) : runFn3 cf53 K C [a0, a1, a2] H = f53 slowR K C a0 a1 a2 H := by kernel_rfl
theorem eq53 (K : Nat) (C : CallC) (a0 a1 a2 : SV) (H : Heap) : runFn2 cf53 K C [a0, a1, a2] H = f53 slow K C a0 a1 a2 H := (runFn_tw cf53 K C [a0, a1, a2] H).trans (slowR_eq ▸ eqt53 K C a0 a1 a2 H)
theorem eqt54 (K : Nat) (C : CallC) (a0 a1 : SV) (H : Heap) : runFn3 cf54 K C [a0, a1] H = f54 slowR K C a0 a1 H := by kernel_rfl
theorem eq54 (K : Nat) (C : CallC) (a0 a1 : SV) (H : Heap) : runFn2 cf54 K C [a0, a1] H = f54 slow K C a0 a1 H := (runFn_tw cf54 K C [a0, a1] H).trans (slowR_eq ▸ eqt54 K C a0 a1 H)
theorem eqt55 (K : Nat) (C : CallC) (a0 : SV) (H : Heap) : runFn3 cf55 K C [a0] H = f55 slowR K C a0 H := by kernel_rfl
theorem eq55 (K : Nat) (C : CallC) (a0 : SV) (H : Heap) : runFn2 cf55 K C [a0] H = f55 slow K C a0 H := (runFn_tw cf55 K C [a0] H).trans (slowR_eq ▸ eqt55 K C a0 H)
theorem eqt56 (K : Nat) (C : CallC) (a0 : SV) (H : Heap) : runFn3 cf56 K C [a0] H = f56 slowR K C a0 H := by kernel_rfl
theorem eq56 (K : Nat) (C : CallC) (a0 : SV) (H : Heap) : runFn2 cf56 K C [a0] H = f56 slow K C a0 H := (runFn_tw cf56 K C [a0] H).trans (slowR_eq ▸ eqt56 K C a0 H)
theorem eqt57 (K : Nat) (C : CallC) (a0 : SV) (H : Heap) : runFn3 cf57 K C [a0] H = f57 slowR K C a0 H := by kernel_rfl
theorem eq57 (K : Nat) (C : CallC) (a0 : SV) (H : Heap) : runFn2 cf57 K C [a0] H = f57 slow K C a0 H := (runFn_tw cf57 K C [a0] H).trans (slowR_eq ▸ eqt57 K C a0 H)
theorem eqt58 (K : Nat) (C : CallC) (a0 : SV) (H : Heap) : runFn3 cf58 K C [a0] H = f58 slowR K C a0 H := by kernel_rfl
theorem eq58 (K : Nat) (C : CallC) (a0 : SV) (H : Heap) : runFn2 cf58 K C [a0] H = f58 slow K C a0 H := (runFn_tw cf58 K C [a0] H).trans (slowR_eq ▸ eqt58 K C a0 H)
theorem eqt59 (K : Nat) (C : CallC) (a0 a1 a2 : SV) (H : Heap) : runFn3 cf59 K C [a0, a1, a2] H = f59 slowR K C a0 a1 a2 H := by kernel_rfl
theorem eq59 (K : Nat) (C : CallC) (a0 a1 a2 : SV) (H : Heap) : runFn2 cf59 K C [a0, a1, a2] H = f59 slow K C a0 a1 a2 H := (runFn_tw cf59 K C [a0, a1, a2] H).trans (slowR_eq ▸ eqt59 K C a0 a1 a2 H)
theorem eqt60 (K : Nat) (C : CallC) (a0 a1 a2 : SV) (H : Heap) : runFn3 cf60 K C [a0, a1, a2] H = f60 slowR K C a0 a1 a2 H := by kernel_rfl
theorem eq60 (K : Nat) (C : CallC) (a0 a1 a2 : SV) (H : Heap) : runFn2 cf60 K C [a0, a1, a2] H = f60 slow K C a0 a1 a2 H := (runFn_tw cf60 K C [a0, a1, a2] H).trans (slowR_eq ▸ eqt60 K C a0 a1 a2 H)
theorem eqt61 (K : Nat) (C : CallC) (a0 a1 a2 a3 a4 : SV) (H : Heap) : runFn3 cf61 K C [a0, a1, a2, a3, a4] H = f61 slowR K C a0 a1 a2 a3 a4 H := by kernel_rfl
theorem eq61 (K : Nat) (C : CallC) (a0 a1 a2 a3 a4 : SV) (H : Heap) : runFn2 cf61 K C [a0, a1, a2, a3, a4] H = f61 slow K C a0 a1 a2 a3 a4 H := (runFn_tw cf61 K C [a0, a1, a2, a3, a4] H).trans (slowR_eq ▸ eqt61 K C a0 a1 a2 a3 a4 H)
theorem eqt62 (K : Nat) (C : CallC) (a0 a1 : SV) (H : Heap) : runFn3 cf62 K C [a0, a1] H = f62 slowR K C a0 a1 H := by kernel_rfl
theorem eq62 (K : Nat) (C : CallC) (a0 a1 : SV) (H : Heap) : runFn2 cf62 K C [a0, a1] H = f62 slow K C a0 a1 H := (runFn_tw cf62 K C [a0, a1] H).trans (slowR_eq ▸ eqt62 K C a0 a1 H)
theorem eqt63 (K : Nat) (C : CallC) (a0 a1 : SV) (H : Heap) : runFn3 cf63 K C [a0, a1] H = f63 slowR K C a0 a1 H := by kernel_rfl
theorem eq63 (K : Nat) (C : CallC) (a0 a1 : SV) (H : Heap) : runFn2 cf63 K C [a0, a1] H = f63 slow K C a0 a1 H := (runFn_tw cf63 K C [a0, a1] H).trans (slowR_eq ▸ eqt63 K C a0 a1 H)
theorem eqt64 (K : Nat) (C : CallC) (a0 : SV) (H : Heap) : runFn3 cf64 K C [a0] H = f64 slowR K C a0 H := by kernel_rfl
theorem eq64 (K : Nat) (C : CallC) (a0 : SV) (H : Heap) : runFn2 cf64 K C [a0] H = f64 slow K C a0 H := (runFn_tw cf64 K C [a0] H).trans (slowR_eq ▸ eqt64 K C a0 H)
theorem eqt65 (K : Nat) (C : CallC) (a0 a1 : SV) (H : Heap) : runFn3 cf65 K C [a0, a1] H = f65 slowR K C a0 a1 H := by kernel_rfl
theorem eq65 (K : Nat) (C : CallC) (a0 a1 : SV) (H : Heap) : runFn2 cf65 K C [a0, a1] H = f65 slow K C a0 a1 H := (runFn_tw cf65 K C [a0, a1] H).trans (slowR_eq ▸ eqt65 K C a0 a1 H)
theorem eqt67 (K : Nat) (C : CallC) (a0 : SV) (H : Heap) : runFn3 cf67 K C [a0] H = f67 slowR K C a0 H := by kernel_rfl
theorem eq67 (K : Nat) (C : CallC) (a0 : SV) (H : Heap) : runFn2 cf67 K C [a0] H = f67 slow K C a0 H := (runFn_tw cf67 K C [a0] H).trans (slowR_eq ▸ eqt67 K C a0 H)
theorem eqt68 (K : Nat) (C : CallC) (a0 a1 : SV) (H : Heap) : runFn3 cf68 K C [a0, a1] H = f68 slowR K C a0 a1 H := by kernel_rfl
theorem eq68 (K : Nat) (C : CallC) (a0 a1 : SV) (H : Heap) : runFn2 cf68 K C [a0, a1] H = f68 slow K C a0 a1 H := (runFn_tw cf68 K C [a0, a1] H).trans (slowR_eq ▸ eqt68 K C a0 a1 H)
theorem eqt69 (K : Nat) (C : CallC) (a0 a1 : SV) (H : Heap) : runFn3 cf69 K C [a0, a1] H = f69 slowR K C a0 a1 H := by kernel_rfl
theorem eq69 (K : Nat) (C : CallC) (a0 a1 : SV) (H : Heap) : runFn2 cf69 K C [a0, a1] H = f69 slow K C a0 a1 H := (runFn_tw cf69 K C [a0, a1] H).trans (slowR_eq ▸ eqt69 K C a0 a1 H)
theorem eqt71 (K : Nat) (C : CallC) (a0 : SV) (H : Heap) : runFn3 cf71 K C [a0] H = f71 slowR K C a0 H := by kernel_rfl
theorem eq71 (K : Nat) (C : CallC) (a0 : SV) (H : Heap) : runFn2 cf71 K C [a0] H = f71 slow K C a0 H := (runFn_tw cf71 K C [a0] H).trans (slowR_eq ▸ eqt71 K C a0 H)
theorem eqt72 (K : Nat) (C : CallC) (a0 a1 : SV) (H : Heap) : runFn3 cf72 K C [a0, a1] H = f72 slowR K C a0 a1 H := by kernel_rfl
theorem eq72 (K : Nat) (C : CallC) (a0 a1 : SV) (H : Heap) : runFn2 cf72 K C [a0, a1] H = f72 slow K C a0 a1 H := (runFn_tw cf72 K C [a0, a1] H).trans (slowR_eq ▸ eqt72 K C a0 a1 H)
theorem eqt73 (K : Nat) (C : CallC) (a0 : SV) (H : Heap) : runFn3 cf73 K C [a0] H = f73 slowR K C a0 H := by kernel_rfl
theorem eq73 (K : Nat) (C : CallC) (a0 : SV) (H : Heap) : runFn2 cf73 K C [a0] H = f73 slow K C a0 H := (runFn_tw cf73 K C [a0] H).trans (slowR_eq ▸ eqt73 K C a0 H)
theorem eqt75 (K : Nat) (C : CallC) (a0 a1 : SV) (H : Heap) : runFn3 cf75 K C [a0, a1] H = f75 slowR K C a0 a1 H := by kernel_rfl
theorem eq75 (K : Nat) (C : CallC) (a0 a1 : SV) (H : Heap) : runFn2 cf75 K C [a0, a1] H = f75 slow K C a0 a1 H := (runFn_tw cf75 K C [a0, a1] H).trans (slowR_eq ▸ eqt75 K C a0 a1 H)
theorem eqt76 (K : Nat) (C : CallC) (a0 a1 a2 a3 a4 : SV) (H : Heap) : runFn3 cf76 K C [a0, a1, a2, a3, a4] H = f76 slowR K C a0 a1 a2 a3 a4 H := by kernel_rfl
theorem eq76 (K : Nat) (C : CallC) (a0 a1 a2 a3 a4 : SV) (H : Heap) : runFn2 cf76 K C [a0, a1, a2, a3, a4] H = f76 slow K C a0 a1 a2 a3 a4 H := (runFn_tw cf76 K C [a0, a1, a2, a3, a4] H).trans (slowR_eq ▸ eqt76 K C a0 a1 a2 a3 a4 H)
theorem eqt77 (K : Nat) (C : CallC) (a0 a1 a2 a3 : SV) (H : Heap) : runFn3 cf77 K C [a0, a1, a2, a3] H = f77 slowR K C a0 a1 a2 a3 H := by kernel_rfl
theorem eq77 (K : Nat) (C : CallC) (a0 a1 a2 a3 : SV) (H : Heap) : runFn2 cf77 K C [a0, a1, a2, a3] H = f77 slow K C a0 a1 a2 a3 H := (runFn_tw cf77 K C [a0, a1, a2, a3] H).trans (slowR_eq ▸ eqt77 K C a0 a1 a2 a3 H)
theorem eqt78 (K : Nat) (C : CallC) (a0 a1 a2 a3 : SV) (H : Heap) : runFn3 cf78 K C [a0, a1, a2, a3] H = f78 slowR K C a0 a1 a2 a3 H := by kernel_rfl
theorem eq78 (K : Nat) (C : CallC) (a0 a1 a2 a3 : SV) (H : Heap) : runFn2 cf78 K C [a0, a1, a2, a3] H = f78 slow K C a0 a1 a2 a3 H := (runFn_tw cf78 K C [a0, a1, a2, a3] H).trans (slowR_eq ▸ eqt78 K C a0 a1 a2 a3 H)
theorem eqt79 (K : Nat) (C : CallC) (a0 a1 : SV) (H : Heap) : runFn3 cf79 K C [a0, a1] H = f79 slowR K C a0 a1 H := by kernel_rfl
theorem eq79 (K : Nat) (C : CallC) (a0 a1 : SV) (H : Heap) : runFn2 cf79 K C [a0, a1] H = f79 slow K C a0 a1 H := (runFn_tw cf79 K C [a0, a1] H).trans (slowR_eq ▸ eqt79 K C a0 a1 H)
theorem eqt80 (K : Nat) (C : CallC) (a0 a1 a2 : SV) (H : Heap) : runFn3 cf80 K C [a0, a1, a2] H = f80 slowR K C a0 a1 a2 H := by kernel_rfl
theorem eq80 (K : Nat) (C : CallC) (a0 a1 a2 : SV) (H : Heap) : runFn2 cf80 K C [a0, a1, a2] H = f80 slow K C a0 a1 a2 H := (runFn_tw cf80 K C [a0, a1, a2] H).trans (slowR_eq ▸ eqt80 K C a0 a1 a2 H)
theorem eqt81 (K : Nat) (C : CallC) (a0 a1 : SV) (H : Heap) : runFn3 cf81 K C [a0, a1] H = f81 slowR K C a0 a1 H := by kernel_rfl
theorem eq81 (K : Nat) (C : CallC) (a0 a1 : SV) (H : Heap) : runFn2 cf81 K C [a0, a1] H = f81 slow K C a0 a1 H := (runFn_tw cf81 K C [a0, a1] H).trans (slowR_eq ▸ eqt81 K C a0 a1 H)
theorem eqt82 (K : Nat) (C : CallC) (a0 a1 : SV) (H : Heap) : runFn3 cf82 K C [a0, a1] H = f82 slowR K C a0 a1 H := by kernel_rfl
theorem eq82 (K : Nat) (C : CallC) (a0 a1 : SV) (H : Heap) : runFn2 cf82 K C [a0, a1] H = f82 slow K C a0 a1 H := (runFn_tw cf82 K C [a0, a1] H).trans (slowR_eq ▸ eqt82 K C a0 a1 H)
theorem eqt83 (K : Nat) (C : CallC) (a0 : SV) (H : Heap) : runFn3 cf83 K C [a0] H = f83 slowR K C a0 H := by kernel_rfl
theorem eq83 (K : Nat) (C : CallC) (a0 : SV) (H : Heap) : runFn2 cf83 K C [a0] H = f83 slow K C a0 H := (runFn_tw cf83 K C [a0] H).trans (slowR_eq ▸ eqt83 K C a0 H)
theorem eqt84 (K : Nat) (C : CallC) (a0 a1 a2 : SV) (H : Heap) : runFn3 cf84 K C [a0, a1, a2] H = f84 slowR K C a0 a1 a2 H := by kernel_rfl
theorem eq84 (K : Nat) (C : CallC) (a0 a1 a2 : SV) (H : Heap) : runFn2 cf84 K C [a0, a1, a2] H = f84 slow K C a0 a1 a2 H := (runFn_tw cf84 K C [a0, a1, a2] H).trans (slowR_eq ▸ eqt84 K C a0 a1 a2 H)
theorem eqt85 (K : Nat) (C : CallC) (a0 : SV) (H : Heap) : runFn3 cf85 K C [a0] H = f85 slowR K C a0 H := by kernel_rfl
theorem eq85 (K : Nat) (C : CallC) (a0 : SV) (H : Heap) : runFn2 cf85 K C [a0] H = f85 slow K C a0 H := (runFn_tw cf85 K C [a0] H).trans (slowR_eq ▸ eqt85 K C a0 H)
theorem eqt86 (K : Nat) (C : CallC) (a0 a1 a2 a3 a4 a5 : SV) (H : Heap) : runFn3 cf86 K C [a0, a1, a2, a3, a4, a5] H = f86 slowR K C a0 a1 a2 a3 a4 a5 H := by kernel_rfl
theorem eq86 (K : Nat) (C : CallC) (a0 a1 a2 a3 a4 a5 : SV) (H : Heap) : runFn2 cf86 K C [a0, a1, a2, a3, a4, a5] H = f86 slow K C a0 a1 a2 a3 a4 a5 H := (runFn_tw cf86 K C [a0, a1, a2, a3, a4, a5] H).trans (slowR_eq ▸ eqt86 K C a0 a1 a2 a3 a4 a5 H)
theorem eqt87 (K : Nat) (C : CallC) (a0 a1 a2 : SV) (H : Heap) : runFn3 cf87 K C [a0, a1, a2] H = f87 slowR K C a0 a1 a2 H := by kernel_rfl
theorem eq87 (K : Nat) (C : CallC) (a0 a1 a2 : SV) (H : Heap) : runFn2 cf87 K C [a0, a1, a2] H = f87 slow K C a0 a1 a2 H := (runFn_tw cf87 K C [a0, a1, a2] H).trans (slowR_eq ▸ eqt87 K C a0 a1 a2 H)
theorem eqt88 (K : Nat) (C : CallC) (a0 a1 a2 a3 : SV) (H : Heap) : runFn3 cf88 K C [a0, a1, a2, a3] H = f88 slowR K C a0 a1 a2 a3 H := by kernel_rfl
theorem eq88 (K : Nat) (C : CallC) (a0 a1 a2 a3 : SV) (H : Heap) : runFn2 cf88 K C [a0, a1, a2, a3] H = f88 slow K C a0 a1 a2 a3 H := (runFn_tw cf88 K C [a0, a1, a2, a3] H).trans (slowR_eq ▸ eqt88 K C a0 a1 a2 a3 H)
theorem eqt89 (K : Nat) (C : CallC) (a0 a1 : SV) (H : Heap) : runFn3 cf89 K C [a0, a1] H = f89 slowR K C a0 a1 H := by kernel_rfl
theorem eq89 (K : Nat) (C : CallC) (a0 a1 : SV) (H : Heap) : runFn2 cf89 K C [a0, a1] H = f89 slow K C a0 a1 H := (runFn_tw cf89 K C [a0, a1] H).trans (slowR_eq ▸ eqt89 K C a0 a1 H)
theorem eqt90 (K : Nat) (C : CallC) (a0 a1 : SV) (H : Heap) : runFn3 cf90 K C [a0, a1] H = f90 slowR K C a0 a1 H := by kernel_rfl
theorem eq90 (K : Nat) (C : CallC) (a0 a1 : SV) (H : Heap) : runFn2 cf90 K C [a0, a1] H = f90 slow K C a0 a1 H := (runFn_tw cf90 K C [a0, a1] H).trans (slowR_eq ▸ eqt90 K C a0 a1 H)
theorem eqt91 (K : Nat) (C : CallC) (a0 a1 : SV) (H : Heap) : runFn3 cf91 K C [a0, a1] H = f91 slowR K C a0 a1 H := by kernel_rfl
theorem eq91 (K : Nat) (C : CallC) (a0 a1 : SV) (H : Heap) : runFn2 cf91 K C [a0, a1] H = f91 slow K C a0 a1 H := (runFn_tw cf91 K C [a0, a1] H).trans (slowR_eq ▸ eqt91 K C a0 a1 H)
theorem eqt92 (K : Nat) (C : CallC) (a0 : SV) (H : Heap) : runFn3 cf92 K C [a0] H = f92 slowR K C a0 H := by kernel_rfl
theorem eq92 (K : Nat) (C : CallC) (a0 : SV) (H : Heap) : runFn2 cf92 K C [a0] H = f92 slow K C a0 H := (runFn_tw cf92 K C [a0] H).trans (slowR_eq ▸ eqt92 K C a0 H)
theorem eqt93 (K : Nat) (C : CallC) (a0 : SV) (H : Heap) : runFn3 cf93 K C [a0] H = f93 slowR K C a0 H := by kernel_rfl
theorem eq93 (K : Nat) (C : CallC) (a0 : SV) (H : Heap) : runFn2 cf93 K C [a0] H = f93 slow K C a0 H := (runFn_tw cf93 K C [a0] H).trans (slowR_eq ▸ eqt93 K C a0 H)
theorem eqt94 (K : Nat) (C : CallC) (a0 a1 : SV) (H : Heap) : runFn3 cf94 K C [a0, a1] H = f94 slowR K C a0 a1 H := by kernel_rfl
theorem eq94 (K : Nat) (C : CallC) (a0 a1 : SV) (H : Heap) : runFn2 cf94 K C [a0, a1] H = f94 slow K C a0 a1 H := (runFn_tw cf94 K C [a0, a1] H).trans (slowR_eq ▸ eqt94 K C a0 a1 H)
theorem eqt95 (K : Nat) (C : CallC) (a0 : SV) (H : Heap) : runFn3 cf95 K C [a0] H = f95 slowR K C a0 H := by kernel_rfl
theorem eq95 (K : Nat) (C : CallC) (a0 : SV) (H : Heap) : runFn2 cf95 K C [a0] H = f95 slow K C a0 H := (runFn_tw cf95 K C [a0] H).trans (slowR_eq ▸ eqt95 K C a0 H)
theorem eqt96 (K : Nat) (C : CallC) (a0 a1 : SV) (H : Heap) : runFn3 cf96 K C [a0, a1] H = f96 slowR K C a0 a1 H := by kernel_rfl
theorem eq96 (K : Nat) (C : CallC) (a0 a1 : SV) (H : Heap) : runFn2 cf96 K C [a0, a1] H = f96 slow K C a0 a1 H := (runFn_tw cf96 K C [a0, a1] H).trans (slowR_eq ▸ eqt96 K C a0 a1 H)
theorem eqt97 (K : Nat) (C : CallC) (a0 a1 : SV) (H : Heap) : runFn3 cf97 K C [a0, a1] H = f97 slowR K C a0 a1 H := by kernel_rfl
theorem eq97 (K : Nat) (C : CallC) (a0 a1 : SV) (H : Heap) : runFn2 cf97 K C [a0, a1] H = f97 slow K C a0 a1 H := (runFn_tw cf97 K C [a0, a1] H).trans (slowR_eq ▸ eqt97 K C a0 a1 H)
theorem eqt98 (K : Nat) (C : CallC) (a0 a1 : SV) (H : Heap) : runFn3 cf98 K C [a0, a1] H = f98 slowR K C a0 a1 H := by kernel_rfl
theorem eq98 (K : Nat) (C : CallC) (a0 a1 : SV) (H : Heap) : runFn2 cf98 K C [a0, a1] H = f98 slow K C a0 a1 H := (runFn_tw cf98 K C [a0, a1] H).trans (slowR_eq ▸ eqt98 K C a0 a1 H)
theorem eqt99 (K : Nat) (C : CallC) (a0 a1 : SV) (H : Heap) : runFn3 cf99 K C [a0, a1] H = f99 slowR K C a0 a1 H := by kernel_rfl
theorem eq99 (K : Nat) (C : CallC) (a0 a1 : SV) (H : Heap) : runFn2 cf99 K C [a0, a1] H = f99 slow K C a0 a1 H := (runFn_tw cf99 K C [a0, a1] H).trans (slowR_eq ▸ eqt99 K C a0 a1 H)
theorem eqt100 (K : Nat) (C : CallC) (a0 a1 : SV) (H : Heap) : runFn3 cf100 K C [a0, a1] H = f100 slowR K C a0 a1 H := by kernel_rfl
theorem eq100 (K : Nat) (C : CallC) (a0 a1 : SV) (H : Heap) : runFn2 cf100 K C [a0, a1] H = f100 slow K C a0 a1 H := (runFn_tw cf100 K C [a0, a1] H).trans (slowR_eq ▸ eqt100 K C a0 a1 H)
theorem eqt101 (K : Nat) (C : CallC) (a0 a1 : SV) (H : Heap) : runFn3 cf101 K C [a0, a1] H = f101 slowR K C a0 a1 H := by kernel_rfl
theorem eq101 (K : Nat) (C : CallC) (a0 a1 : SV) (H : Heap) : runFn2 cf101 K C [a0, a1] H = f101 slow K C a0 a1 H := (runFn_tw cf101 K C [a0, a1] H).trans (slowR_eq ▸ eqt101 K C a0 a1 H)
theorem eqt102 (K : Nat) (C : CallC) (a0 : SV) (H : Heap) : runFn3 cf102 K C [a0] H = f102 slowR K C a0 H := by kernel_rfl
theorem eq102 (K : Nat) (C : CallC) (a0 : SV) (H : Heap) : runFn2 cf102 K C [a0] H = f102 slow K C a0 H := (runFn_tw cf102 K C [a0] H).trans (slowR_eq ▸ eqt102 K C a0 H)
theorem eqt103 (K : Nat) (C : CallC) (a0 a1 : SV) (H : Heap) : runFn3 cf103 K C [a0, a1] H = f103 slowR K C a0 a1 H := by kernel_rfl
theorem eq103 (K : Nat) (C : CallC) (a0 a1 : SV) (H : Heap) : runFn2 cf103 K C [a0, a1] H = f103 slow K C a0 a1 H := (runFn_tw cf103 K C [a0, a1] H).trans (slowR_eq ▸ eqt103 K C a0 a1 H)
theorem eqt104 (K : Nat) (C : CallC) (a0 : SV) (H : Heap) : runFn3 cf104 K C [a0] H = f104 slowR K C a0 H := by kernel_rfl
theorem eq104 (K : Nat) (C : CallC) (a0 : SV) (H : Heap) : runFn2 cf104 K C [a0] H = f104 slow K C a0 H := (runFn_tw cf104 K C [a0] H).trans (slowR_eq ▸ eqt104 K C a0 H)
theorem eqt105 (K : Nat) (C : CallC) (a0 : SV) (H : Heap) : runFn3 cf105 K C [a0] H = f105 slowR K C a0 H := by kernel_rfl
theorem eq105 (K : Nat) (C : CallC) (a0 : SV) (H : Heap) : runFn2 cf105 K C [a0] H = f105 slow K C a0 H := (runFn_tw cf105 K C [a0] H).trans (slowR_eq ▸ eqt105 K C a0 H)
theorem eqt106 (K : Nat) (C : CallC) (a0 a1 : SV) (H : Heap) : runFn3 cf106 K C [a0, a1] H = f106 slowR K C a0 a1 H := by kernel_rfl
theorem eq106 (K : Nat) (C : CallC) (a0 a1 : SV) (H : Heap) : runFn2 cf106 K C [a0, a1] H = f106 slow K C a0 a1 H := (runFn_tw cf106 K C [a0, a1] H).trans (slowR_eq ▸ eqt106 K C a0 a1 H)
theorem eqt107 (K : Nat) (C : CallC) (a0 : SV) (H : Heap) : runFn3 cf107 K C [a0] H = f107 slowR K C a0 H := by kernel_rfl
theorem eq107 (K : Nat) (C : CallC) (a0 : SV) (H : Heap) : runFn2 cf107 K C [a0] H = f107 slow K C a0 H := (runFn_tw cf107 K C [a0] H).trans (slowR_eq ▸ eqt107 K C a0 H)
theorem eqt108 (K : Nat) (C : CallC) (a0 a1 a2 : SV) (H : Heap) : runFn3 cf108 K C [a0, a1, a2] H = f108 slowR K C a0 a1 a2 H := by kernel_rfl
theorem eq108 (K : Nat) (C : CallC) (a0 a1 a2 : SV) (H : Heap) : runFn2 cf108 K C [a0, a1, a2] H = f108 slow K C a0 a1 a2 H := (runFn_tw cf108 K C [a0, a1, a2] H).trans (slowR_eq ▸ eqt108 K C a0 a1 a2 H)
theorem eqt109 (K : Nat) (C : CallC) (a0 : SV) (H : Heap) : runFn3 cf109 K C [a0] H = f109 slowR K C a0 H := by kernel_rfl
theorem eq109 (K : Nat) (C : CallC) (a0 : SV) (H : Heap) : runFn2 cf109 K C [a0] H = f109 slow K C a0 H := (runFn_tw cf109 K C [a0] H).trans (slowR_eq ▸ eqt109 K C a0 H)
theorem eqt110 (K : Nat) (C : CallC) (a0 a1 : SV) (H : Heap) : runFn3 cf110 K C [a0, a1] H = f110 slowR K C a0 a1 H := by kernel_rfl
theorem eq110 (K : Nat) (C : CallC) (a0 a1 : SV) (H : Heap) : runFn2 cf110 K C [a0, a1] H = f110 slow K C a0 a1 H := (runFn_tw cf110 K C [a0, a1] H).trans (slowR_eq ▸ eqt110 K C a0 a1 H)
theorem eqt111 (K : Nat) (C : CallC) (a0 : SV) (H : Heap) : runFn3 cf111 K C [a0] H = f111 slowR K C a0 H := by kernel_rfl
theorem eq111 (K : Nat) (C : CallC) (a0 : SV) (H : Heap) : runFn2 cf111 K C [a0] H = f111 slow K C a0 H := (runFn_tw cf111 K C [a0] H).trans (slowR_eq ▸ eqt111 K C a0 H)
theorem eqt112 (K : Nat) (C : CallC) (a0 a1 : SV) (H : Heap) : runFn3 cf112 K C [a0, a1] H = f112 slowR K C a0 a1 H := by kernel_rfl
theorem eq112 (K : Nat) (C : CallC) (a0 a1 : SV) (H : Heap) : runFn2 cf112 K C [a0, a1] H = f112 slow K C a0 a1 H := (runFn_tw cf112 K C [a0, a1] H).trans (slowR_eq ▸ eqt112 K C a0 a1 H)
theorem eqt113 (K : Nat) (C : CallC) (a0 : SV) (H : Heap) : runFn3 cf113 K C [a0] H = f113 slowR K C a0 H := by kernel_rfl
theorem eq113 (K : Nat) (C : CallC) (a0 : SV) (H : Heap) : runFn2 cf113 K C [a0] H = f113 slow K C a0 H := (runFn_tw cf113 K C [a0] H).trans (slowR_eq ▸ eqt113 K C a0 H)
theorem eqt114 (K : Nat) (C : CallC) (a0 a1 a2 : SV) (H : Heap) : runFn3 cf114 K C [a0, a1, a2] H = f114 slowR K C a0 a1 a2 H := by kernel_rfl
theorem eq114 (K : Nat) (C : CallC) (a0 a1 a2 : SV) (H : Heap) : runFn2 cf114 K C [a0, a1, a2] H = f114 slow K C a0 a1 a2 H := (runFn_tw cf114 K C [a0, a1, a2] H).trans (slowR_eq ▸ eqt114 K C a0 a1 a2 H)
theorem eqt115 (K : Nat) (C : CallC) (a0 a1 a2 : SV) (H : Heap) : runFn3 cf115 K C [a0, a1, a2] H = f115 slowR K C a0 a1 a2 H := by kernel_rfl
theorem eq115 (K : Nat) (C : CallC) (a0 a1 a2 : SV) (H : Heap) : runFn2 cf115 K C [a0, a1, a2] H = f115 slow K C a0 a1 a2 H := (runFn_tw cf115 K C [a0, a1, a2] H).trans (slowR_eq ▸ eqt115 K C a0 a1 a2 H)
theorem eqt116 (K : Nat) (C : CallC) (a0 a1 : SV) (H : Heap) : runFn3 cf116 K C [a0, a1] H = f116 slowR K C a0 a1 H := by kernel_rfl
theorem eq116 (K : Nat) (C : CallC) (a0 a1 : SV) (H : Heap) : runFn2 cf116 K C [a0, a1] H = f116 slow K C a0 a1 H := (runFn_tw cf116 K C [a0, a1] H).trans (slowR_eq ▸ eqt116 K C a0 a1 H)
def ents : EL := [(8, cf8, ent3 f8), (9, cf9, ent0 f9), (10, cf10, ent1 f10), (11, cf11, ent1 f11), (12, cf12, ent1 f12), (13, cf13, ent1 f13), (14, cf14, ent1 f14), (15, cf15, ent2 f15), (16, cf16, ent3 f16), (17, cf17, ent2 f17), (18, cf18, ent1 f18), (19, cf19, ent1 f19), (20, cf20, ent2 f20), (21, cf21, ent2 f21), (22, cf22, ent1 f22), (23, cf23, ent2 f23), (24, cf24, ent1 f24), (25, cf25, ent1 f25), (26, cf26, ent2 f26), (27, cf27, ent2 f27), (28, cf28, ent1 f28), (32, cf32, ent1 f32), (33, cf33, ent1 f33), (37, cf37, ent2 f37), (38, cf38, ent2 f38), (39, cf39, ent2 f39), (40, cf40, ent2 f40), (41, cf41, ent1 f41), (42, cf42, ent2 f42), (43, cf43, ent3 f43), (44, cf44, ent1 f44), (45, cf45, ent4 f45), (46, cf46, ent1 f46), (47, cf47, ent1 f47), (48, cf48, ent1 f48), (49, cf49, ent3 f49), (50, cf50, ent3 f50), (51, cf51, ent1 f51), (52, cf52, ent1 f52), (53, cf53, ent3 f53), (54, cf54, ent2 f54), (55, cf55, ent1 f55), (56, cf56, ent1 f56), (57, cf57, ent1 f57), (58, cf58, ent1 f58), (59, cf59, ent3 f59), (60, cf60, ent3 f60), (61, cf61, ent5 f61), (62, cf62, ent2 f62), (63, cf63, ent2 f63), (64, cf64, ent1 f64), (65, cf65, ent2 f65), (67, cf67, ent1 f67), (68, cf68, ent2 f68), (69, cf69, ent2 f69), (71, cf71, ent1 f71), (72, cf72, ent2 f72), (73, cf73, ent1 f73), (75, cf75, ent2 f75), (76, cf76, ent5 f76), (77, cf77, ent4 f77), (78, cf78, ent4 f78), (79, cf79, ent2 f79), (80, cf80, ent3 f80), (81, cf81, ent2 f81), (82, cf82, ent2 f82), (83, cf83, ent1 f83), (84, cf84, ent3 f84), (85, cf85, ent1 f85), (86, cf86, ent6 f86), (87, cf87, ent3 f87), (88, cf88, ent4 f88), (89, cf89, ent2 f89), (90, cf90, ent2 f90), (91, cf91, ent2 f91), (92, cf92, ent1 f92), (93, cf93, ent1 f93), (94, cf94, ent2 f94), (95, cf95, ent1 f95), (96, cf96, ent2 f96), (97, cf97, ent2 f97), (98, cf98, ent2 f98), (99, cf99, ent2 f99), (100, cf100, ent2 f100), (101, cf101, ent2 f101), (102, cf102, ent1 f102), (103, cf103, ent2 f103), (104, cf104, ent1 f104), (105, cf105, ent1 f105), (106, cf106, ent2 f106), (107, cf107, ent1 f107), (108, cf108, ent3 f108), (109, cf109, ent1 f109), (110, cf110, ent2 f110), (111, cf111, ent1 f111), (112, cf112, ent2 f112), (113, cf113, ent1 f113), (114, cf114, ent3 f114), (115, cf115, ent3 f115), (116, cf116, ent2 f116)]
theorem entsOk : AllOk ents := ⟨EntOk.of3 (fun K C a0 a1 a2 H => eq8 K C a0 a1 a2 H), ⟨EntOk.of0 (fun K C H => eq9 K C H), ⟨EntOk.of1 (fun K C a0 H => eq10 K C a0 H), ⟨EntOk.of1 (fun K C a0 H => eq11 K C a0 H), ⟨EntOk.of1 (fun K C a0 H => eq12 K C a0 H), ⟨EntOk.of1 (fun K C a0 H => eq13 K C a0 H), ⟨EntOk.of1 (fun K C a0 H => eq14 K C a0 H), ⟨EntOk.of2 (fun K C a0 a1 H => eq15 K C a0 a1 H), ⟨EntOk.of3 (fun K C a0 a1 a2 H => eq16 K C a0 a1 a2 H), ⟨EntOk.of2 (fun K C a0 a1 H => eq17 K C a0 a1 H), ⟨EntOk.of1 (fun K C a0 H => eq18 K C a0 H), ⟨EntOk.of1 (fun K C a0 H => eq19 K C a0 H), ⟨EntOk.of2 (fun K C a0 a1 H => eq20 K C a0 a1 H), ⟨EntOk.of2 (fun K C a0 a1 H => eq21 K C a0 a1 H), ⟨EntOk.of1 (fun K C a0 H => eq22 K C a0 H), ⟨EntOk.of2 (fun K C a0 a1 H => eq23 K C a0 a1 H), ⟨EntOk.of1 (fun K C a0 H => eq24 K C a0 H), ⟨EntOk.of1 (fun K C a0 H => eq25 K C a0 H), ⟨EntOk.of2 (fun K C a0 a1 H => eq26 K C a0 a1 H), ⟨EntOk.of2 (fun K C a0 a1 H => eq27 K C a0 a1 H), ⟨EntOk.of1 (fun K C a0 H => eq28 K C a0 H), ⟨EntOk.of1 (fun K C a0 H => eq32 K C a0 H), ⟨EntOk.of1 (fun K C a0 H => eq33 K C a0 H), ⟨EntOk.of2 (fun K C a0 a1 H => eq37 K C a0 a1 H), ⟨EntOk.of2 (fun K C a0 a1 H => eq38 K C a0 a1 H), ⟨EntOk.of2 (fun K C a0 a1 H => eq39 K C a0 a1 H), ⟨EntOk.of2 (fun K C a0 a1 H => eq40 K C a0 a1 H), ⟨EntOk.of1 (fun K C a0 H => eq41 K C a0 H), ⟨EntOk.of2 (fun K C a0 a1 H => eq42 K C a0 a1 H), ⟨EntOk.of3 (fun K C a0 a1 a2 H => eq43 K C a0 a1 a2 H), ⟨EntOk.of1 (fun K C a0 H => eq44 K C a0 H), ⟨EntOk.of4 (fun K C a0 a1 a2 a3 H => eq45 K C a0 a1 a2 a3 H), ⟨EntOk.of1 (fun K C a0 H => eq46 K C a0 H), ⟨EntOk.of1 (fun K C a0 H => eq47 K C a0 H), ⟨EntOk.of1 (fun K C a0 H => eq48 K C a0 H), ⟨EntOk.of3 (fun K C a0 a1 a2 H => eq49 K C a0 a1 a2 H), ⟨EntOk.of3 (fun K C a0 a1 a2 H => eq50 K C a0 a1 a2 H), ⟨EntOk.of1 (fun K C a0 H => eq51 K C a0 H), ⟨EntOk.of1 (fun K C a0 H => eq52 K C a0 H), ⟨EntOk.of3 (fun K C a0 a1 a2 H => eq53 K C a0 a1 a2 H), ⟨EntOk.of2 (fun K C a0 a1 H => eq54 K C a0 a1 H), ⟨EntOk.of1 (fun K C a0 H => eq55 K C a0 H), ⟨EntOk.of1 (fun K C a0 H => eq56 K C a0 H), ⟨EntOk.of1 (fun K C a0 H => eq57 K C a0 H), ⟨EntOk.of1 (fun K C a0 H => eq58 K C a0 H), ⟨EntOk.of3 (fun K C a0 a1 a2 H => eq59 K C a0 a1 a2 H), ⟨EntOk.of3 (fun K C a0 a1 a2 H => eq60 K C a0 a1 a2 H), ⟨EntOk.of5 (fun K C a0 a1 a2 a3 a4 H => eq61 K C a0 a1 a2 a3 a4 H), ⟨EntOk.of2 (fun K C a0 a1 H => eq62 K C a0 a1 H), ⟨EntOk.of2 (fun K C a0 a1 H => eq63 K C a0 a1 H), ⟨EntOk.of1 (fun K C a0 H => eq64 K C a0 H), ⟨EntOk.of2 (fun K C a0 a1 H => eq65 K C a0 a1 H), ⟨EntOk.of1 (fun K C a0 H => eq67 K C a0 H), ⟨EntOk.of2 (fun K C a0 a1 H => eq68 K C a0 a1 H), ⟨EntOk.of2 (fun K C a0 a1 H => eq69 K C a0 a1 H), ⟨EntOk.of1 (fun K C a0 H => eq71 K C a0 H), ⟨EntOk.of2 (fun K C a0 a1 H => eq72 K C a0 a1 H), ⟨EntOk.of1 (fun K C a0 H => eq73 K C a0 H), ⟨EntOk.of2 (fun K C a0 a1 H => eq75 K C a0 a1 H), ⟨EntOk.of5 (fun K C a0 a1 a2 a3 a4 H => eq76 K C a0 a1 a2 a3 a4 H), ⟨EntOk.of4 (fun K C a0 a1 a2 a3 H => eq77 K C a0 a1 a2 a3 H), ⟨EntOk.of4 (fun K C a0 a1 a2 a3 H => eq78 K C a0 a1 a2 a3 H), ⟨EntOk.of2 (fun K C a0 a1 H => eq79 K C a0 a1 H), ⟨EntOk.of3 (fun K C a0 a1 a2 H => eq80 K C a0 a1 a2 H), ⟨EntOk.of2 (fun K C a0 a1 H => eq81 K C a0 a1 H), ⟨EntOk.of2 (fun K C a0 a1 H => eq82 K C a0 a1 H), ⟨EntOk.of1 (fun K C a0 H => eq83 K C a0 H), ⟨EntOk.of3 (fun K C a0 a1 a2 H => eq84 K C a0 a1 a2 H), ⟨EntOk.of1 (fun K C a0 H => eq85 K C a0 H), ⟨EntOk.of6 (fun K C a0 a1 a2 a3 a4 a5 H => eq86 K C a0 a1 a2 a3 a4 a5 H), ⟨EntOk.of3 (fun K C a0 a1 a2 H => eq87 K C a0 a1 a2 H), ⟨EntOk.of4 (fun K C a0 a1 a2 a3 H => eq88 K C a0 a1 a2 a3 H), ⟨EntOk.of2 (fun K C a0 a1 H => eq89 K C a0 a1 H), ⟨EntOk.of2 (fun K C a0 a1 H => eq90 K C a0 a1 H), ⟨EntOk.of2 (fun K C a0 a1 H => eq91 K C a0 a1 H), ⟨EntOk.of1 (fun K C a0 H => eq92 K C a0 H), ⟨EntOk.of1 (fun K C a0 H => eq93 K C a0 H), ⟨EntOk.of2 (fun K C a0 a1 H => eq94 K C a0 a1 H), ⟨EntOk.of1 (fun K C a0 H => eq95 K C a0 H), ⟨EntOk.of2 (fun K C a0 a1 H => eq96 K C a0 a1 H), ⟨EntOk.of2 (fun K C a0 a1 H => eq97 K C a0 a1 H), ⟨EntOk.of2 (fun K C a0 a1 H => eq98 K C a0 a1 H), ⟨EntOk.of2 (fun K C a0 a1 H => eq99 K C a0 a1 H), ⟨EntOk.of2 (fun K C a0 a1 H => eq100 K C a0 a1 H), ⟨EntOk.of2 (fun K C a0 a1 H => eq101 K C a0 a1 H), ⟨EntOk.of1 (fun K C a0 H => eq102 K C a0 H), ⟨EntOk.of2 (fun K C a0 a1 H => eq103 K C a0 a1 H), ⟨EntOk.of1 (fun K C a0 H => eq104 K C a0 H), ⟨EntOk.of1 (fun K C a0 H => eq105 K C a0 H), ⟨EntOk.of2 (fun K C a0 a1 H => eq106 K C a0 a1 H), ⟨EntOk.of1 (fun K C a0 H => eq107 K C a0 H), ⟨EntOk.of3 (fun K C a0 a1 a2 H => eq108 K C a0 a1 a2 H), ⟨EntOk.of1 (fun K C a0 H => eq109 K C a0 H), ⟨EntOk.of2 (fun K C a0 a1 H => eq110 K C a0 a1 H), ⟨EntOk.of1 (fun K C a0 H => eq111 K C a0 H), ⟨EntOk.of2 (fun K C a0 a1 H => eq112 K C a0 a1 H), ⟨EntOk.of1 (fun K C a0 H => eq113 K C a0 H), ⟨EntOk.of3 (fun K C a0 a1 a2 H => eq114 K C a0 a1 a2 H), ⟨EntOk.of3 (fun K C a0 a1 a2 H => eq115 K C a0 a1 a2 H), ⟨EntOk.of2 (fun K C a0 a1 H => eq116 K C a0 a1 H), trivial⟩⟩⟩⟩⟩⟩⟩⟩⟩⟩⟩⟩⟩⟩⟩⟩⟩⟩⟩⟩⟩⟩⟩⟩⟩⟩⟩⟩⟩⟩⟩⟩⟩⟩⟩⟩⟩⟩⟩⟩⟩⟩⟩⟩⟩⟩⟩⟩⟩⟩⟩⟩⟩⟩⟩⟩⟩⟩⟩⟩⟩⟩⟩⟩⟩⟩⟩⟩⟩⟩⟩⟩⟩⟩⟩⟩⟩⟩⟩⟩⟩⟩⟩⟩⟩⟩⟩⟩⟩⟩⟩⟩⟩⟩⟩⟩⟩⟩⟩⟩
def tab : BT Ent := (.node none (.node none (.node none (.node none (.node (some (ent2 f15)) (.node none (.node (some (ent2 f63)) .nil .nil) (.node (some (ent1 f95)) .nil .nil)) (.node (some (ent1 f47)) (.node (some (ent2 f79)) .nil .nil) (.node (some (ent1 f111)) .nil .nil))) (.node (some (ent2 f23)) (.node (some (ent2 f39)) (.node (some (ent1 f71)) .nil .nil) (.node (some (ent2 f103)) .nil .nil)) (.node (some (ent1 f55)) (.node (some (ent3 f87)) .nil .nil) .nil))) (.node (some (ent1 f11)) (.node (some (ent1 f19)) (.node none (.node (some (ent1 f67)) .nil .nil) (.node (some (ent2 f99)) .nil .nil)) (.node (some (ent1 f51)) (.node (some (ent1 f83)) .nil .nil) (.node (some (ent3 f115)) .nil .nil))) (.node (some (ent2 f27)) (.node (some (ent3 f43)) (.node (some (ent2 f75)) .nil .nil) (.node (some (ent1 f107)) .nil .nil)) (.node (some (ent3 f59)) (.node (some (ent2 f91)) .nil .nil) .nil)))) (.node none (.node (some (ent0 f9)) (.node (some (ent2 f17)) (.node (some (ent1 f33)) (.node (some (ent2 f65)) .nil .nil) (.node (some (ent2 f97)) .nil .nil)) (.node (some (ent3 f49)) (.node (some (ent2 f81)) .nil .nil) (.node (some (ent1 f113)) .nil .nil))) (.node (some (ent1 f25)) (.node (some (ent1 f41)) (.node (some (ent1 f73)) .nil .nil) (.node (some (ent1 f105)) .nil .nil)) (.node (some (ent1 f57)) (.node (some (ent2 f89)) .nil .nil) .nil))) (.node (some (ent1 f13)) (.node (some (ent2 f21)) (.node (some (ent2 f37)) (.node (some (ent2 f69)) .nil .nil) (.node (some (ent2 f101)) .nil .nil)) (.node (some (ent3 f53)) (.node (some (ent1 f85)) .nil .nil) .nil)) (.node none (.node (some (ent4 f45)) (.node (some (ent4 f77)) .nil .nil) (.node (some (ent1 f109)) .nil .nil)) (.node (some (ent5 f61)) (.node (some (ent1 f93)) .nil .nil) .nil))))) (.node none (.node none (.node (some (ent3 f8)) (.node (some (ent3 f16)) (.node (some (ent1 f32)) (.node (some (ent1 f64)) .nil .nil) (.node (some (ent2 f96)) .nil .nil)) (.node (some (ent1 f48)) (.node (some (ent3 f80)) .nil .nil) (.node (some (ent2 f112)) .nil .nil))) (.node (some (ent1 f24)) (.node (some (ent2 f40)) (.node (some (ent2 f72)) .nil .nil) (.node (some (ent1 f104)) .nil .nil)) (.node (some (ent1 f56)) (.node (some (ent4 f88)) .nil .nil) .nil))) (.node (some (ent1 f12)) (.node (some (ent2 f20)) (.node none (.node (some (ent2 f68)) .nil .nil) (.node (some (ent2 f100)) .nil .nil)) (.node (some (ent1 f52)) (.node (some (ent3 f84)) .nil .nil) (.node (some (ent2 f116)) .nil .nil))) (.node (some (ent1 f28)) (.node (some (ent1 f44)) (.node (some (ent5 f76)) .nil .nil) (.node (some (ent3 f108)) .nil .nil)) (.node (some (ent3 f60)) (.node (some (ent1 f92)) .nil .nil) .nil)))) (.node none (.node (some (ent1 f10)) (.node (some (ent1 f18)) (.node none .nil (.node (some (ent2 f98)) .nil .nil)) (.node (some (ent3 f50)) (.node (some (ent2 f82)) .nil .nil) (.node (some (ent3 f114)) .nil .nil))) (.node (some (ent2 f26)) (.node (some (ent2 f42)) .nil (.node (some (ent2 f106)) .nil .nil)) (.node (some (ent1 f58)) (.node (some (ent2 f90)) .nil .nil) .nil))) (.node (some (ent1 f14)) (.node (some (ent1 f22)) (.node (some (ent2 f38)) .nil (.node (some (ent1 f102)) .nil .nil)) (.node (some (ent2 f54)) (.node (some (ent6 f86)) .nil .nil) .nil)) (.node none (.node (some (ent1 f46)) (.node (some (ent4 f78)) .nil .nil) (.node (some (ent2 f110)) .nil .nil)) (.node (some (ent2 f62)) (.node (some (ent2 f94)) .nil .nil) .nil))))))
theorem tab_eq : tabOf ents = tab := rfl
end Go.Sh.Of
