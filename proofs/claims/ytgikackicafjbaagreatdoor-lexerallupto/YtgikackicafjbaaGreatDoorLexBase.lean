/- Small functions, run in place. -/
import Derived.Test.YtgikackicafjbaaGreatDoorLexLib
import Derived.Test.YtgikackicafjbaaGreatDoorPiNum
set_option linter.unusedVariables false
open Go.Proofs
namespace Go.Proofs.YtgikackicafjbaaGreatDoor
open Go.Pi


variable (ml : Int)
noncomputable def fs1 : List (FuncId × Func) := [(26, Tryz.f26), (31, Tryz.f31), (96, Tryz.f96), (72, Tryz.f72), (106, Tryz.f106), (102, Tryz.f102), (152, Tryz.f152), (139, Tryz.f139), (104, Tryz.f104), (138, Tryz.f138), (126, Tryz.f126), (65, Tryz.f65), (50, Tryz.f50), (12, Tryz.f12), (28, Tryz.f28), (29, Tryz.f29)]
noncomputable def fs2 : List (FuncId × Func) := [(66, Tryz.f66), (71, Tryz.f71), (140, Tryz.f140), (51, Tryz.f51), (118, Tryz.f118), (121, Tryz.f121), (103, Tryz.f103), (32, Tryz.f32), (19, Tryz.f19)]
noncomputable def B1 : List (FuncId × Ans) := (lib ml).inls prims 14 2 fs1
noncomputable def B2 : List (FuncId × Ans) := (lib ml).inls (B1 ml) 14 2 fs2


theorem B2_ok (ml : Int) (h : (lib ml).Knows (kn prims)) : (lib ml).Knows (kn (B2 ml)) := by
  have f1 := inl_facts (l := lib ml) fs1 (by kernel_rfl)
  have f2 := inl_facts (l := lib ml) fs2 (by kernel_rfl)
  exact inls_ok (lib_ok ml) (inls_ok (lib_ok ml) h 14 2 fs1 f1.1 f1.2) 14 2 fs2 f2.1 f2.2

end Go.Proofs.YtgikackicafjbaaGreatDoor
