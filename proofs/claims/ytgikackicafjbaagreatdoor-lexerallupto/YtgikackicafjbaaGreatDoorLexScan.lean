/- lexer.scan, its rounds. -/
import Derived.Test.YtgikackicafjbaaGreatDoorLexWord
set_option linter.unusedVariables false
open Go.Proofs
namespace Go.Proofs.YtgikackicafjbaaGreatDoor
open Go.Pi

noncomputable def E22 (ml : Int) (sc : Code → St → Tree (Ex × St)) : Env := (lib ml).env (kn (G1 ml)) noTurn sc
noncomputable def body22 : Code := scopeN Tryz.f22 0
def keep22 : List Nat := [0, 1, 4, 5, 6]
abbrev tokL (k : Int) (t : List UInt8) (a b c : Int) (d : List UInt8) (p : Int) : List PVal := [.int .i64 k, .str t, .int .i64 a, .int .i64 b, .int .i64 c, .str d, .int .i64 p]
abbrev ob38 (k : Int) (t : List UInt8) (a b c : Int) (d : List UInt8) (p : Int) : Ob := ⟨38, tokL k t a b c d p, [false, false, false, false, false, false, false]⟩
abbrev ob38z : Ob := ob38 0 [] 0 0 0 [] 0
abbrev ob36 (k n m : Int) (b : List UInt8) : Ob := ⟨36, [.int .i64 k, .int .i64 n, .int .i64 m, .str b], [false, false, false, false]⟩
def st22 (e : Int) (i f : Int) (s : List UInt8) : Few := [(0, .str s, false), (1, .int .i64 i, false), (4, .loc 0 0, false), (5, .int .i64 e, false), (6, .int .i64 f, false)]
def cut22 (s : List UInt8) (f i : Int) : List UInt8 := (s.take i.toNat).drop f.toNat
/-- May it be cut there? -/
def may22 (s : List UInt8) (f i : Int) (r : Option (Ex × St)) : Option (Ex × St) :=
  bif decide (0 ≤ i) && decide (i ≤ s.length) then bif decide (0 ≤ f) && decide (f ≤ i) then r else none else none
def in22 (s : List UInt8) (i : Int) (r : Option (Ex × St)) : Option (Ex × St) := bif decide (0 ≤ i) && decide (i < s.length) then r else none
def at22 (s : List UInt8) (i : Int) : UInt8 := s.getD i.toNat 0
def none22 (s : List UInt8) (f i : Int) : Option (Ex × St) := some (.ret, mkSt 163 (st22 i i f s) [ob38z])

def lit22 (s : List UInt8) (f i : Int) : Option (Ex × St) :=
  may22 s f i <|
  bif decide ((cut22 s f i).length < 4294967281) && (isFirst 39 (cut22 s f i) || firstD (cut22 s f i)) then
    bif err34 (cut22 s f i) != 0 then some (.ret, mkSt 163 (st22 i i f s) [ob38z, ob36 (val34 (cut22 s f i)).k (val34 (cut22 s f i)).n (val34 (cut22 s f i)).m (val34 (cut22 s f i)).b])
    else may22 s f i <| some (.ret, mkSt 163 (st22 i i f s) [ob38 3 (cut22 s f i) (val34 (cut22 s f i)).k (val34 (cut22 s f i)).n (val34 (cut22 s f i)).m (val34 (cut22 s f i)).b f, ob36 (val34 (cut22 s f i)).k (val34 (cut22 s f i)).n (val34 (cut22 s f i)).m (val34 (cut22 s f i)).b])
  else none

def gto22 (l : Nat) (s : List UInt8) (f i : Int) : Option (Ex × St) := some (.gto l, mkSt 163 (st22 0 i f s) [ob38z])

def endw22 (s : List UInt8) (f i : Int) : Option (Ex × St) :=
  may22 s f i <| bif short (cut22 s f i) then
    bif !wordB (cut22 s f i) then none22 s f i
    else may22 s f i <| some (.ret, mkSt 163 (st22 i i f s) [ob38 1 (cut22 s f i) 0 0 0 [] f])
  else none
def word22 (s : List UInt8) (f i : Int) : Option (Ex × St) :=
  bif decide (i < s.length) then in22 s i <| bif letF (at22 s i).toNat then gto22 0 s f i else in22 s i <| bif digF (at22 s i).toNat then gto22 0 s f i else endw22 s f i
  else endw22 s f i
def num22 (s : List UInt8) (f i : Int) : Option (Ex × St) :=
  bif decide (i < s.length) then in22 s i <| bif digF (at22 s i).toNat then gto22 1 s f i else in22 s i <| bif ((at22 s i).toNat : Int) == 46 then
      may22 s f i <| bif short (cut22 s f i) then bif !(cut22 s f i).contains 46 then gto22 1 s f i else gto22 3 s f i else none
    else gto22 3 s f i
  else gto22 3 s f i
def txt22 (s : List UInt8) (f i : Int) : Option (Ex × St) :=
  bif decide (i ≥ s.length) then none22 s f i
  else in22 s i <| bif ((at22 s i).toNat : Int) != 39 then gto22 2 s f i
  else bif decide (IntKind.i64.wrap (i + 1) < s.length) then in22 s (IntKind.i64.wrap (i + 1)) <| bif ((at22 s (IntKind.i64.wrap (i + 1))).toNat : Int) == 39 then gto22 2 s f (IntKind.i64.wrap (i + 1)) else lit22 s f (IntKind.i64.wrap (i + 1))
  else lit22 s f (IntKind.i64.wrap (i + 1))

set_option maxRecDepth 100000 in
theorem q22w (ml : Int) (sc' : Code → St → Tree (Ex × St)) (s : List UInt8) (f i : Int) :
    (roundT (E22 ml sc') 150 keep22 (restOf body22 0) (mkSt 163 (st22 0 i f s) [ob38z])).run = word22 s f (IntKind.i64.wrap (i + 1)) := by kernel_rfl
set_option maxRecDepth 100000 in
theorem q22n (ml : Int) (sc' : Code → St → Tree (Ex × St)) (s : List UInt8) (f i : Int) :
    (roundT (E22 ml sc') 150 keep22 (restOf body22 1) (mkSt 163 (st22 0 i f s) [ob38z])).run = num22 s f (IntKind.i64.wrap (i + 1)) := by kernel_rfl
set_option maxRecDepth 100000 in
theorem q22l (ml : Int) (sc' : Code → St → Tree (Ex × St)) (s : List UInt8) (f i : Int) :
    (roundT (E22 ml sc') 150 keep22 (restOf body22 3) (mkSt 163 (st22 0 i f s) [ob38z])).run = lit22 s f i := by kernel_rfl
set_option maxRecDepth 100000 in
theorem q22t (ml : Int) (sc' : Code → St → Tree (Ex × St)) (s : List UInt8) (f i : Int) :
    (roundT (E22 ml sc') 150 keep22 (restOf body22 2) (mkSt 163 (st22 0 i f s) [ob38z])).run = txt22 s f (IntKind.i64.wrap (i + 1)) := by kernel_rfl
end Go.Proofs.YtgikackicafjbaaGreatDoor
set_option linter.unusedVariables false
open Go.Proofs
namespace Go.Proofs.YtgikackicafjbaaGreatDoor
open Go.Pi

def signs : List UInt8 := [40, 41, 44, 46, 59, 42, 43, 45, 47, 37, 61, 60, 62]
def sgn22 (s : List UInt8) (i j : Int) : Option (Ex × St) := may22 s i j <| some (.ret, mkSt 163 (st22 j i i s) [ob38 2 (cut22 s i j) 0 0 0 [] i])
def one22 (s : List UInt8) (i : Int) : Option (Ex × St) :=
  bif decide (Lib.indexByte signs ((at22 s i).toNat : Int).toNat.toUInt8 ≥ 0) then sgn22 s i (IntKind.i64.wrap (i + 1)) else none22 s i i
def two22 (s : List UInt8) (i : Int) : Option (Ex × St) :=
  bif decide (IntKind.i64.wrap (i + 1) < s.length) then
    may22 s i (IntKind.i64.wrap (i + 2)) <|
      bif cut22 s i (IntKind.i64.wrap (i + 2)) == [60, 62] then sgn22 s i (IntKind.i64.wrap (i + 2))
      else bif cut22 s i (IntKind.i64.wrap (i + 2)) == [60, 61] then sgn22 s i (IntKind.i64.wrap (i + 2))
      else bif cut22 s i (IntKind.i64.wrap (i + 2)) == [62, 61] then sgn22 s i (IntKind.i64.wrap (i + 2))
      else one22 s i
  else one22 s i
def start22 (s : List UInt8) (i : Int) : Option (Ex × St) :=
  in22 s i <| bif letF (at22 s i).toNat then gto22 0 s i i else bif digF (at22 s i).toNat then gto22 1 s i i else bif ((at22 s i).toNat : Int) == 39 then gto22 2 s i i else two22 s i

set_option maxRecDepth 100000 in
theorem s22 (ml : Int) (sc' : Code → St → Tree (Ex × St)) (s : List UInt8) (i : Int) :
    (roundT (E22 ml sc') 150 keep22 (uptoL body22 0) (mkSt 163 [(0, .str s, false), (1, .int .i64 i, false), (4, .loc 0 0, false), (5, .int .i64 0, false)] [ob38z])).run = start22 s i := by kernel_rfl
end Go.Proofs.YtgikackicafjbaaGreatDoor
