/- datum.Right, decimal.Print, datum.Print, datum.read, datum.Parse. -/
import Derived.Test.YtgikackicafjbaaGreatDoorLexQuo
set_option linter.unusedVariables false
open Go.Proofs
namespace Go.Proofs.YtgikackicafjbaaGreatDoor
open Go.Pi

noncomputable def fsD : List (FuncId × Func) := [(74, Tryz.f74), (75, Tryz.f75)]
noncomputable def D1 (ml : Int) : List (FuncId × Ans) := (67, a67) :: (69, a69) :: (lib ml).inls (C3 ml) 14 2 fsD
theorem D1_ok (ml : Int) (h : (lib ml).Knows (kn prims)) : (lib ml).Knows (kn (D1 ml)) := by
  have f := inl_facts (l := lib ml) fsD (by kernel_rfl)
  exact kn_cons (a67_ok ml h) (kn_cons (a69_ok ml h) (inls_ok (lib_ok ml) (C3_ok ml h) 14 2 _ f.1 f.2))
noncomputable def Ds (ml : Int) : Env := (lib ml).envU (kn (D1 ml)) 14 2

/-- A value, by its cells. -/
abbrev pv (k n m : Int) (b : List UInt8) : PVal := .agg [.int .i64 k, .int .i64 n, .int .i64 m, .str b]
def eqv (k n m : Int) (b : List UInt8) (k' n' m' : Int) (b' : List UInt8) : Bool := k == k' && (n == n' && (m == m' && (b == b' && true)))
def okScale (m : Int) : Bool := bif decide (m < 0) then false else bif decide (m > 6) then false else true
def okPoint (n m : Int) : Bool := bif decide (n ≥ -1048576) then bif decide (n ≤ 1048576) then bif decide (m ≥ -1048576) then bif decide (m ≤ 1048576) then true else false else false else false else false
def rightV (k n m : Int) (b : List UInt8) : Bool :=
  bif k == 0 then eqv k n m b 0 0 0 []
  else bif k == 1 then eqv k n m b 1 n 0 []
  else bif k == 2 then (bif b == [] then okScale m else false)
  else bif k == 3 then (bif eqv k n m b 3 0 0 b then (bif decide ((b.length : Int) ≤ 256) then Lib.validD b else false) else false)
  else bif k == 4 then (bif eqv k n m b 4 0 0 [] then true else eqv k n m b 4 1 0 [])
  else bif k == 5 then (bif b == [] then okPoint n m else false)
  else false

abbrev cb (b : Bool) : Option CR := some ⟨.bool b, [false], []⟩
set_option maxRecDepth 100000 in
theorem r53 (ml : Int) (k n m : Int) (b : List UInt8) : (callT (Ds ml) Tryz.f53 [pv k n m b] []).run =
  bif k == 0 then cb (eqv k n m b 0 0 0 [])
  else bif k == 1 then cb (eqv k n m b 1 n 0 [])
  else bif k == 2 then (bif b == [] then (bif decide (m < 0) then cb false else bif decide (m > 6) then cb false else cb true) else cb false)
  else bif k == 3 then (bif eqv k n m b 3 0 0 b then (bif decide ((b.length : Int) ≤ 256) then (bif decide (b.length ≤ 9223372036854775807) then cb (Lib.validD b) else none) else cb false) else cb false)
  else bif k == 4 then (bif eqv k n m b 4 0 0 [] then cb true else cb (eqv k n m b 4 1 0 []))
  else bif k == 5 then (bif b == [] then (bif decide (n ≥ -1048576) then bif decide (n ≤ 1048576) then bif decide (m ≥ -1048576) then cb (decide (m ≤ 1048576)) else cb false else cb false else cb false) else cb false)
  else cb false := by kernel_rfl

/-- How many noughts ahead. -/
def pad76 (lo sc : Int) : Int := if IntKind.i64.wrap (IntKind.i64.wrap (sc + 1) - ((digs 20 lo.toNat).length : Int)) > 0 then IntKind.i64.wrap (IntKind.i64.wrap (sc + 1) - ((digs 20 lo.toNat).length : Int)) else 0
def txt76 (lo sc : Int) : List UInt8 := repS [48] (pad76 lo sc).toNat ++ digs 20 lo.toNat
abbrev cs (b : List UInt8) : Option CR := some ⟨.str b, [false], []⟩
def fin76 (neg : Bool) (x : List UInt8) : Option CR := bif neg then (bif decide (1 + x.length ≤ 9223372036854775807) then cs ([45] ++ x) else none) else cs x
def dot76 (x : List UInt8) (h : Int) : List UInt8 := ((x.take h.toNat).drop (0 : Int).toNat ++ [46]) ++ (x.take (x.length : Int).toNat).drop h.toNat
def mid76 (neg : Bool) (sc : Int) (x : List UInt8) (h : Int) : Option CR :=
  bif decide (sc > 0) then
    bif decide (0 ≤ h) && decide (h ≤ x.length) then bif decide ((0 : Int) ≤ 0) && decide (0 ≤ h) then
      bif decide (((x.take h.toNat).drop (0 : Int).toNat).length + 1 ≤ 9223372036854775807) then
        bif decide (0 ≤ (x.length : Int)) && decide ((x.length : Int) ≤ x.length) then bif decide (0 ≤ h) && decide (h ≤ x.length) then
          bif decide (((x.take h.toNat).drop (0 : Int).toNat ++ [46]).length + ((x.take (x.length : Int).toNat).drop h.toNat).length ≤ 9223372036854775807) then fin76 neg (dot76 x h) else none
        else none else none
      else none
    else none else none
  else fin76 neg x
def tail76 (lo : Int) (neg : Bool) (sc : Int) : Option CR :=
  bif decide (0 ≤ lo) && decide (lo < 18446744073709551616) then
    bif decide (0 ≤ pad76 lo sc) && decide (1 * (pad76 lo sc).toNat ≤ 140737488355328) && decide (pad76 lo sc ≤ 9223372036854775807) then
      bif decide ((repS [48] (pad76 lo sc).toNat).length + (digs 20 lo.toNat).length ≤ 9223372036854775807) then
        mid76 neg sc (txt76 lo sc) (IntKind.i64.wrap (((txt76 lo sc).length : Int) - sc))
      else none
    else none
  else none

set_option maxRecDepth 100000 in
theorem r76 (ml : Int) (u sc : Int) : (callT (Ds ml) Tryz.f76 [.agg [.int .i64 u, .int .i64 sc]] []).run =
  bif decide (sc < 0) then cs [] else bif decide (sc > 6) then cs [] else
  bif decide (u < 0) then tail76 (IntKind.u64.wrap (0 - IntKind.u64.wrap u)) true sc else tail76 (IntKind.u64.wrap u) false sc := by kernel_rfl
end Go.Proofs.YtgikackicafjbaaGreatDoor
