/- LexerAll: its rounds. -/
import Derived.Test.YtgikackicafjbaaGreatDoorLexKnows
set_option linter.unusedVariables false
open Go.Proofs
namespace Go.Proofs.YtgikackicafjbaaGreatDoor
open Go.Pi

noncomputable def E6 (ml : Int) (lp : Code → St → Tree (Ex × St)) : Env := (lib ml).env (kn (M1 ml)) lp noTurn
noncomputable def body6o : Code := loopN Tryz.f6 0
noncomputable def body6i : Code := loopN Tryz.f6 1
def keep6i : List Nat := [0, 2, 3, 5, 6, 7, 8]
def keep6o : List Nat := [0, 2, 3, 5, 6]
def st6i (s : List UInt8) (xs : List PVal) (at_ i e k : Int) : Few := [(0, .str s, false), (3, .sl 7 xs, false), (5, .int .i64 at_, false), (6, .int .i64 i, false), (7, .int .i64 e, false), (8, .int .i64 k, false)]
def st6o (s : List UInt8) (xs : List PVal) (at_ i : Int) : Few := [(0, .str s, false), (3, .sl 7 xs, false), (5, .int .i64 at_, false), (6, .int .i64 i, false)]
def fls : Few := [(2, .bool false, false)]

def rnd6i (s : List UInt8) (xs : List PVal) (at_ i e k : Int) : Option (Ex × St) :=
  bif decide (k < e) then
    in22 s k <| bif ((at22 s k).toNat : Int) != 32 then
      in22 s k <| bif ((at22 s k).toNat : Int) != 9 then
        in22 s k <| bif ((at22 s k).toNat : Int) != 10 then some (.ret, mkSt 110 (fls ++ st6i s xs at_ i e k))
        else some (.nrm, mkSt 110 (st6i s xs at_ i e (IntKind.i64.wrap (k + 1))))
      else some (.nrm, mkSt 110 (st6i s xs at_ i e (IntKind.i64.wrap (k + 1))))
    else some (.nrm, mkSt 110 (st6i s xs at_ i e (IntKind.i64.wrap (k + 1))))
  else some (.ext 2, mkSt 110 (st6i s xs at_ i e k))
set_option maxRecDepth 100000 in
theorem q6i (ml : Int) (lp : Code → St → Tree (Ex × St)) (s : List UInt8) (xs : List PVal) (at_ i e k : Int) : (roundH (E6 ml lp) 150 keep6i body6i (mkSt 110 (st6i s xs at_ i e k))).run = rnd6i s xs at_ i e k := by kernel_rfl

def blk (s : List UInt8) (a e : Int) : Bool := ((s.drop a.toNat).take (e.toNat - a.toNat)).all blank
def L6i : List (PVal × Bool) → List Ob → Tree (Ex × Few × List Ob)
  | [(.str s, false), (.sl 7 xs, false), (.int .i64 at_, false), (.int .i64 i, false), (.int .i64 e, false), (.int .i64 k, false)], _ =>
    .need (decide (0 ≤ k) && decide (k ≤ s.length) && decide (k ≤ e) && decide (e ≤ s.length) && decide (s.length < 4294967281)) (.ite (blk s k e) (.ret (.ext 2, [(0, .str s, false), (3, .sl 7 xs, false), (5, .int .i64 at_, false), (6, .int .i64 i, false), (7, .int .i64 e, false)], [])) (.ret (.ret, fls, [])))
  | _, _ => .fail

/-- What is looked at in a token. -/
def decP (p : PVal) : Int := intOf (p.cells.tail.tail.tail.tail.tail.tail.headD .junk)
def decX (p : PVal) : List UInt8 := strOf (p.cells.tail.headD .junk)
def okE (s : List UInt8) (a e : Int) : Bool := !decide (e < a) && !decide (e > s.length)
def okT (s : List UInt8) (e : Int) (x : List UInt8) : Bool := !((x.length : Int) == 0) && !decide ((x.length : Int) > s.length - e) && ((s.drop e.toNat).take x.length == x)
def chk6 (s : List UInt8) : List PVal → Int → Bool
  | [], a => okE s a s.length && blk s a s.length
  | p :: l, a => okE s a (decP p) && blk s a (decP p) && okT s (decP p) (decX p) && chk6 s l (decP p + (decX p).length)
noncomputable def L6o (ml : Int) : List (PVal × Bool) → List Ob → Tree (Ex × Few × List Ob)
  | [(.str s, false), (.sl 7 xs, false), (.int .i64 at_, false), (.int .i64 i, false)], _ =>
    .need (decide (at_ = 0) && decide (i = 0) && decide (s.length < 4294967281) && decide (xs.length < 1099511627776) && fitAll (TY (lib ml).P) 38 xs) (.ite (chk6 s xs 0) (.ret (.ext 0, [], [])) (.ret (.ret, fls, [])))
  | _, _ => .fail
noncomputable def lp6 (ml : Int) : Code → St → Tree (Ex × St) := fun b s => bif Nat.beq (Pi.keyOf b) 7 then told 110 [(0, false), (3, false), (5, false), (6, false)] (L6o ml) s
  else told 110 [(0, false), (3, false), (5, false), (6, false), (7, false), (8, false)] L6i s

noncomputable def idx6 (ml : Int) (xs : List PVal) (i : Int) (r : Option (Ex × St)) : Option (Ex × St) :=
  bif decide (0 ≤ i) && decide (i < xs.length) then bif fitAll (TY (lib ml).P) 38 xs then r else none else none
def no6 (s : List UInt8) (xs : List PVal) (at_ i : Int) : Option (Ex × St) := some (.ret, mkSt 110 (fls ++ st6o s xs at_ i))
noncomputable def end6 (ml : Int) (s : List UInt8) (xs : List PVal) (at_ i e : Int) : Option (Ex × St) :=
  bif decide (i < xs.length) then idx6 ml xs i <|
    bif ((decX (xs.getD i.toNat .junk)).length : Int) == 0 then no6 s xs at_ i
    else bif decide (((decX (xs.getD i.toNat .junk)).length : Int) > IntKind.i64.wrap (s.length - e)) then no6 s xs at_ i
    else may22 s e (IntKind.i64.wrap (e + (decX (xs.getD i.toNat .junk)).length)) <| idx6 ml xs i <|
      bif !(cut22 s e (IntKind.i64.wrap (e + (decX (xs.getD i.toNat .junk)).length)) == decX (xs.getD i.toNat .junk)) then no6 s xs at_ i
      else some (.nrm, mkSt 110 (st6o s xs (IntKind.i64.wrap (e + (decX (xs.getD i.toNat .junk)).length)) (IntKind.i64.wrap (i + 1))))
  else some (.nrm, mkSt 110 (st6o s xs at_ (IntKind.i64.wrap (i + 1))))
noncomputable def mid6 (ml : Int) (s : List UInt8) (xs : List PVal) (at_ i e : Int) : Option (Ex × St) :=
  bif decide (e < at_) then no6 s xs at_ i else bif decide (e > s.length) then no6 s xs at_ i else
    bif decide (0 ≤ at_) && decide (at_ ≤ s.length) && decide (at_ ≤ e) && decide (e ≤ s.length) && decide (s.length < 4294967281) then
      bif blk s at_ e then end6 ml s xs at_ i e else some (.ret, mkSt 110 fls)
    else none
noncomputable def rnd6o (ml : Int) (s : List UInt8) (xs : List PVal) (at_ i : Int) : Option (Ex × St) :=
  bif decide (i ≤ xs.length) then
    bif decide (i < xs.length) then idx6 ml xs i <| mid6 ml s xs at_ i (decP (xs.getD i.toNat .junk))
    else mid6 ml s xs at_ i s.length
  else some (.ext 0, mkSt 110 (st6o s xs at_ i))
set_option maxRecDepth 100000 in
theorem q6o (ml : Int) (s : List UInt8) (xs : List PVal) (at_ i : Int) : (roundH (E6 ml (lp6 ml)) 150 keep6o body6o (mkSt 110 (st6o s xs at_ i))).run = rnd6o ml s xs at_ i := by kernel_rfl
end Go.Proofs.YtgikackicafjbaaGreatDoor
