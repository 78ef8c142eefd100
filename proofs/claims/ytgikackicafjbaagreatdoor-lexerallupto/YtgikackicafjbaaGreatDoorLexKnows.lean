/- What must come: a word, a sign, a number. -/
import Derived.Test.YtgikackicafjbaaGreatDoorLexSplit
set_option linter.unusedVariables false
open Go.Proofs
namespace Go.Proofs.YtgikackicafjbaaGreatDoor
open Go.Pi

noncomputable def J1 (ml : Int) : List (FuncId × Ans) := (lib ml).inls (I1 ml) 14 2 [(15, Tryz.f15)]
noncomputable def J2 (ml : Int) : List (FuncId × Ans) := (lib ml).inls (J1 ml) 14 2 [(17, Tryz.f17)]
noncomputable def Js (ml : Int) : Env := (lib ml).envU (kn (J2 ml)) 14 2

def s1 : List UInt8 := [97, 49, 60, 61, 50, 46, 53]
theorem k1 : (bad9 s1, toks s1) = (false, [⟨1, [97, 49], v0, 0⟩, ⟨2, [60, 61], v0, 2⟩, ⟨3, [50, 46, 53], ⟨2, 25, 1, []⟩, 4⟩]) := by decide +kernel
set_option maxRecDepth 100000 in
theorem r13 (ml : Int) : (callT (Js ml) Tryz.f13 [] []).run = cb true := by kernel_rfl

noncomputable def a13 : Ans := fun args h => match args, h with
  | [], [] => .ret ⟨.bool true, [false], []⟩
  | _, _ => .fail
theorem J2_ok (ml : Int) (h : (lib ml).Knows (kn prims)) : (lib ml).Knows (kn (J2 ml)) := by
  have f1 := inl_facts (l := lib ml) [(15, Tryz.f15)] (by kernel_rfl)
  have f2 := inl_facts (l := lib ml) [(17, Tryz.f17)] (by kernel_rfl)
  exact inls_ok (lib_ok ml) (inls_ok (lib_ok ml) (I1_ok ml h) 14 2 _ f1.1 f1.2) 14 2 _ f2.1 f2.2
theorem a13_ok (ml : Int) (h : (lib ml).Knows (kn prims)) : (lib ml).AnsOK 13 a13 := by
  intro args hh r hr
  unfold a13 at hr
  split at hr
  · have := run_ret_inv hr
    subst this
    exact inl_ok (lib_ok ml) (J2_ok ml h) 14 2 (f := 13) (fn := Tryz.f13) (by kernel_rfl) (by kernel_rfl) _ _ _ (r13 ml)
  · cases hr
noncomputable def M1 (ml : Int) : List (FuncId × Ans) := (13, a13) :: I1 ml
theorem M1_ok (ml : Int) (h : (lib ml).Knows (kn prims)) : (lib ml).Knows (kn (M1 ml)) := kn_cons (a13_ok ml h) (I1_ok ml h)
end Go.Proofs.YtgikackicafjbaaGreatDoor
