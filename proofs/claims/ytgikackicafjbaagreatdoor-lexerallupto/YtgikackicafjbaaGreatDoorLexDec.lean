/- decimal's 128 bits, and its Parse. -/
import Derived.Test.YtgikackicafjbaaGreatDoorLexStr
import Derived.Test.YtgikackicafjbaaGreatDoorPiSeg
set_option linter.unusedVariables false
open Go.Proofs
namespace Go.Proofs.YtgikackicafjbaaGreatDoor
open Go.Pi

def in64 (n : Int) : Bool := decide (0 ≤ n) && decide (n < 18446744073709551616)
/-- 128 bits. -/
def bigI (v : Int) (neg : Bool) : PVal := .agg [.int .u64 (v / 18446744073709551616), .int .u64 (v % 18446744073709551616), .bool neg]

noncomputable def a100 : Ans := fun args h => match args, h with
  | [.agg [.int .u64 a, .int .u64 b, .bool g], .int .u64 n], [] => .need (in64 a && in64 b && in64 n && decide ((a * 18446744073709551616 + b) * n < 340282366920938463463374607431768211456)) (.ret ⟨bigI ((a * 18446744073709551616 + b) * n) g, [false], []⟩)
  | _, _ => .fail
/-- Of one sign. -/
noncomputable def a101 : Ans := fun args h => match args, h with
  | [.agg [.int .u64 a, .int .u64 b, .bool g], .agg [.int .u64 c, .int .u64 d, .bool k]], [] =>
    .need (g == k && in64 a && in64 b && in64 c && in64 d && decide (a * 18446744073709551616 + b + (c * 18446744073709551616 + d) < 340282366920938463463374607431768211456)) (.ret ⟨bigI (a * 18446744073709551616 + b + (c * 18446744073709551616 + d)) g, [false], []⟩)
  | _, _ => .fail

theorem r100 (ml : Int) (a b n : Int) (g : Bool) : (callT (Bs ml) Tryz.f100 [.agg [.int .u64 a, .int .u64 b, .bool g], .int .u64 n] []).run =
    bif decide (0 ≤ b) && decide (b < 18446744073709551616) && decide (0 ≤ n) && decide (n < 18446744073709551616) then
      some ⟨.agg [.int .u64 (IntKind.u64.wrap (b * n / 18446744073709551616 + IntKind.u64.wrap (a * n))), .int .u64 (b * n % 18446744073709551616), .bool g], [false], []⟩
    else none := by kernel_rfl

noncomputable def C2k (ml : Int) : List (FuncId × Ans) := (lib ml).inls (C1 ml) 14 2 [(124, Tryz.f124)]
noncomputable def Cs (ml : Int) : Env := (lib ml).envU (kn (C2k ml)) 14 2

theorem r101t (ml : Int) (a b c d : Int) : (callT (Cs ml) Tryz.f101 [.agg [.int .u64 a, .int .u64 b, .bool true], .agg [.int .u64 c, .int .u64 d, .bool true]] []).run =
    some ⟨.agg [.int .u64 (IntKind.u64.wrap (IntKind.u64.wrap (a + c) + Int.ofNat ((b.toNat + d.toNat + 0) / 18446744073709551616))), .int .u64 (Int.ofNat ((b.toNat + d.toNat + 0) % 18446744073709551616)), .bool true], [false], []⟩ := by kernel_rfl
theorem r101f (ml : Int) (a b c d : Int) : (callT (Cs ml) Tryz.f101 [.agg [.int .u64 a, .int .u64 b, .bool false], .agg [.int .u64 c, .int .u64 d, .bool false]] []).run =
    some ⟨.agg [.int .u64 (IntKind.u64.wrap (IntKind.u64.wrap (a + c) + Int.ofNat ((b.toNat + d.toNat + 0) / 18446744073709551616))), .int .u64 (Int.ofNat ((b.toNat + d.toNat + 0) % 18446744073709551616)), .bool false], [false], []⟩ := by kernel_rfl

theorem C2k_ok (ml : Int) (h : (lib ml).Knows (kn prims)) : (lib ml).Knows (kn (C2k ml)) := by
  have f := inl_facts (l := lib ml) [(124, Tryz.f124)] (by kernel_rfl)
  exact inls_ok (lib_ok ml) (C1_ok ml h) 14 2 _ f.1 f.2

theorem in64_iff {n : Int} : in64 n = true ↔ 0 ≤ n ∧ n < 18446744073709551616 := by simp [in64]

theorem a100_ok (ml : Int) (h : (lib ml).Knows (kn prims)) : (lib ml).AnsOK 100 a100 := by
  intro args hh r hr
  unfold a100 at hr
  split at hr
  · rename_i a b g n
    obtain ⟨hs, rfl⟩ := need_ret_inv hr
    clear hr
    simp only [Bool.and_eq_true, in64_iff, decide_eq_true_eq] at hs
    obtain ⟨⟨⟨⟨a0, a1⟩, ⟨b0, b1⟩⟩, ⟨n0, n1⟩⟩, hp⟩ := hs
    refine inlB2 ml h (fn := Tryz.f100) (by kernel_rfl) (by kernel_rfl) ?_
    rw [r100, bif_true (by simp [b0, b1, n0, n1])]
    have e : (a * 18446744073709551616 + b) * n = (a * n) * 18446744073709551616 + b * n := by rw [Int.add_mul, Int.mul_right_comm]
    rw [e] at hp ⊢
    have h1 : 0 ≤ a * n := Int.mul_nonneg a0 n0
    have h2 : 0 ≤ b * n := Int.mul_nonneg b0 n0
    generalize a * n = p at *
    generalize b * n = q at *
    unfold bigI
    have e1 : IntKind.u64.wrap p = p := wu64 h1 (by omega)
    rw [e1, wu64 (by omega) (by omega)]
    have e2 : q / 18446744073709551616 + p = (p * 18446744073709551616 + q) / 18446744073709551616 := by omega
    have e3 : q % 18446744073709551616 = (p * 18446744073709551616 + q) % 18446744073709551616 := by omega
    rw [e2, e3]
  · cases hr

theorem a101_ok (ml : Int) (h : (lib ml).Knows (kn prims)) : (lib ml).AnsOK 101 a101 := by
  intro args hh r hr
  unfold a101 at hr
  split at hr
  · rename_i a b g c d k
    obtain ⟨hs, rfl⟩ := need_ret_inv hr
    clear hr
    simp only [Bool.and_eq_true, in64_iff, decide_eq_true_eq, beq_iff_eq] at hs
    obtain ⟨⟨⟨⟨⟨rfl, ⟨a0, a1⟩⟩, ⟨b0, b1⟩⟩, ⟨c0, c1⟩⟩, ⟨d0, d1⟩⟩, hp⟩ := hs
    refine inl_ok (lib_ok ml) (C2k_ok ml h) 14 2 (f := 101) (fn := Tryz.f101) (by kernel_rfl) (by kernel_rfl) _ _ _ ?_
    have key : ∀ g, (callT (Cs ml) Tryz.f101 [.agg [.int .u64 a, .int .u64 b, .bool g], .agg [.int .u64 c, .int .u64 d, .bool g]] []).run = some ⟨.agg [.int .u64 (IntKind.u64.wrap (IntKind.u64.wrap (a + c) + Int.ofNat ((b.toNat + d.toNat + 0) / 18446744073709551616))), .int .u64 (Int.ofNat ((b.toNat + d.toNat + 0) % 18446744073709551616)), .bool g], [false], []⟩ := by
      intro g
      cases g
      · exact r101f ml a b c d
      · exact r101t ml a b c d
    refine (key g).trans ?_
    unfold bigI
    rw [wu64 (n := a + c) (by omega) (by omega), wu64 (by simp only [Int.ofNat_eq_natCast]; omega) (by simp only [Int.ofNat_eq_natCast]; omega)]
    have e1 : a + c + Int.ofNat ((b.toNat + d.toNat + 0) / 18446744073709551616) = (a * 18446744073709551616 + b + (c * 18446744073709551616 + d)) / 18446744073709551616 := by simp only [Int.ofNat_eq_natCast]; omega
    have e2 : Int.ofNat ((b.toNat + d.toNat + 0) % 18446744073709551616) = (a * 18446744073709551616 + b + (c * 18446744073709551616 + d)) % 18446744073709551616 := by simp only [Int.ofNat_eq_natCast]; omega
    rw [e1, e2]
  · cases hr

noncomputable def C2 (ml : Int) : List (FuncId × Ans) := (100, a100) :: (101, a101) :: C1 ml
theorem C2_ok (ml : Int) (h : (lib ml).Knows (kn prims)) : (lib ml).Knows (kn (C2 ml)) :=
  kn_cons (a100_ok ml h) (kn_cons (a101_ok ml h) (C1_ok ml h))
end Go.Proofs.YtgikackicafjbaaGreatDoor
set_option linter.unusedVariables false
open Go.Proofs
namespace Go.Proofs.YtgikackicafjbaaGreatDoor
open Go.Pi

/-- decimal.back: how it ends, the units, the scale. -/
def backE (a b : Int) (g : Bool) : Int := bif a != 0 then 32 else bif g then (bif decide (b ≤ 9223372036854775808) then 0 else 32) else (bif decide (b < 9223372036854775808) then 0 else 32)
def backU (a b : Int) (g : Bool) : Int := bif backE a b g == 0 then (bif g then IntKind.i64.wrap (IntKind.u64.wrap (0 - b)) else IntKind.i64.wrap b) else 0
def backS (a b : Int) (g : Bool) (n : Int) : Int := bif backE a b g == 0 then n else 0
noncomputable def a102 : Ans := fun args h => match args, h with
  | [.agg [.int .u64 a, .int .u64 b, .bool g], .int .i64 n], [] => .ret ⟨.tup [.agg [.int .i64 (backU a b g), .int .i64 (backS a b g n)], .int .i64 (backE a b g)], [false, false], []⟩
  | _, _ => .fail

theorem r102 (ml : Int) (a b n : Int) (g : Bool) : (callT (Bs ml) Tryz.f102 [.agg [.int .u64 a, .int .u64 b, .bool g], .int .i64 n] []).run =
  bif a != 0 then some ⟨.tup [.agg [.int .i64 0, .int .i64 0], .int .i64 32], [false, false], []⟩
  else bif g then
    bif decide (b ≤ 9223372036854775808) then some ⟨.tup [.agg [.int .i64 (IntKind.i64.wrap (IntKind.u64.wrap (0 - b))), .int .i64 n], .int .i64 0], [false, false], []⟩
    else bif !true then (bif decide (b < 9223372036854775808) then some ⟨.tup [.agg [.int .i64 (IntKind.i64.wrap b), .int .i64 n], .int .i64 0], [false, false], []⟩ else some ⟨.tup [.agg [.int .i64 0, .int .i64 0], .int .i64 32], [false, false], []⟩) else some ⟨.tup [.agg [.int .i64 0, .int .i64 0], .int .i64 32], [false, false], []⟩
  else bif !false then (bif decide (b < 9223372036854775808) then some ⟨.tup [.agg [.int .i64 (IntKind.i64.wrap b), .int .i64 n], .int .i64 0], [false, false], []⟩ else some ⟨.tup [.agg [.int .i64 0, .int .i64 0], .int .i64 32], [false, false], []⟩) else some ⟨.tup [.agg [.int .i64 0, .int .i64 0], .int .i64 32], [false, false], []⟩ := by
  cases g <;> kernel_rfl

theorem a102_ok (ml : Int) (h : (lib ml).Knows (kn prims)) : (lib ml).AnsOK 102 a102 := by
  intro args hh r hr
  unfold a102 at hr
  split at hr
  · rename_i a b g n
    have := run_ret_inv hr
    subst this
    refine inlB2 ml h (fn := Tryz.f102) (by kernel_rfl) (by kernel_rfl) ?_
    rw [r102]
    unfold backU backS backE
    cases a != 0 <;> cases g <;> cases decide (b ≤ 9223372036854775808) <;> cases decide (b < 9223372036854775808) <;> rfl
  · cases hr

noncomputable def C3 (ml : Int) : List (FuncId × Ans) := (102, a102) :: C2 ml
theorem C3_ok (ml : Int) (h : (lib ml).Knows (kn prims)) : (lib ml).Knows (kn (C3 ml)) := kn_cons (a102_ok ml h) (C2_ok ml h)

def dg (c : UInt8) : Int := IntKind.u8.wrap ((c.toNat : Int) - 48)
def isD (c : UInt8) : Bool := !decide (dg c > 9)

def K64 : Int := 18446744073709551616
abbrev ob105 (u s : Int) : Ob := ⟨105, [.int .i64 u, .int .i64 s], [false, false]⟩
abbrev ob137 (a b : Int) (g : Bool) : Ob := ⟨137, [.int .u64 a, .int .u64 b, .bool g], [false, false, false]⟩
def st69 (e : Int) (neg : Bool) (sc : Int) (over : Bool) (i : Int) (s : List UInt8) : Few := [(2, .loc 0 0, false), (3, .int .i64 e, false), (5, .bool neg, false), (9, .int .i64 sc, false), (10, .loc 1 0, false), (11, .bool over, false), (12, .int .i64 i, false), (13, .str s, false)]
def keep69 : List Nat := [2, 3, 5, 9, 10, 11, 12, 13]

/-- Behind the digits. -/
def tail69 (neg : Bool) (sc : Int) (over : Bool) (i : Int) (s : List UInt8) (a b : Int) : Option (Ex × St) :=
  bif (bif neg then (a == 0 && (b == 0 && true)) else false) then some (.ret, mkSt 96 (st69 21 neg sc over i s) [ob105 0 0, ob137 a b false])
  else bif over then some (.ret, mkSt 96 (st69 32 neg sc over i s) [ob105 0 0, ob137 a b false])
  else some (.ret, mkSt 96 (st69 (backE a b neg) neg sc over i s) [ob105 (backU a b neg) (backS a b neg sc), ob137 a b neg])

noncomputable def E69 (ml : Int) (sc : Code → St → Tree (Ex × St)) : Env := (lib ml).env (kn (C3 ml)) noTurn sc
noncomputable def body69 : Code := scopeN Tryz.f69 0

set_option maxRecDepth 100000 in
theorem q69 (ml : Int) (sc' : Code → St → Tree (Ex × St)) (neg over : Bool) (sc i a b : Int) (s : List UInt8) :
    (roundT (E69 ml sc') 150 keep69 (restOf body69 0) (mkSt 96 (st69 0 neg sc over i s) [ob105 0 0, ob137 a b false])).run =
    bif decide (0 ≤ i) && decide (i < s.length) then
      bif decide (dg (s.getD i.toNat 0) > 9) then some (.ret, mkSt 96 (st69 21 neg sc over i s) [ob105 0 0, ob137 a b false])
      else bif !over then
        bif in64 a && in64 b && in64 10 && decide ((a * 18446744073709551616 + b) * 10 < 340282366920938463463374607431768211456) then
          bif false == false && in64 ((a * 18446744073709551616 + b) * 10 / 18446744073709551616) && in64 ((a * 18446744073709551616 + b) * 10 % 18446744073709551616) && in64 0 && in64 (IntKind.u64.wrap (dg (s.getD i.toNat 0))) && decide ((a * 18446744073709551616 + b) * 10 / 18446744073709551616 * 18446744073709551616 + (a * 18446744073709551616 + b) * 10 % 18446744073709551616 + (0 * 18446744073709551616 + IntKind.u64.wrap (dg (s.getD i.toNat 0))) < 340282366920938463463374607431768211456) then
            bif decide (IntKind.i64.wrap (i + 1) < s.length) then
              some (.gto 0, mkSt 96 (st69 0 neg sc (decide (((a * 18446744073709551616 + b) * 10 / 18446744073709551616 * 18446744073709551616 + (a * 18446744073709551616 + b) * 10 % 18446744073709551616 + (0 * 18446744073709551616 + IntKind.u64.wrap (dg (s.getD i.toNat 0)))) / 18446744073709551616 > 0)) (IntKind.i64.wrap (i + 1)) s) [ob105 0 0, ob137 (((a * 18446744073709551616 + b) * 10 / 18446744073709551616 * 18446744073709551616 + (a * 18446744073709551616 + b) * 10 % 18446744073709551616 + (0 * 18446744073709551616 + IntKind.u64.wrap (dg (s.getD i.toNat 0)))) / 18446744073709551616) (((a * 18446744073709551616 + b) * 10 / 18446744073709551616 * 18446744073709551616 + (a * 18446744073709551616 + b) * 10 % 18446744073709551616 + (0 * 18446744073709551616 + IntKind.u64.wrap (dg (s.getD i.toNat 0)))) % 18446744073709551616) false])
            else tail69 neg sc (decide (((a * 18446744073709551616 + b) * 10 / 18446744073709551616 * 18446744073709551616 + (a * 18446744073709551616 + b) * 10 % 18446744073709551616 + (0 * 18446744073709551616 + IntKind.u64.wrap (dg (s.getD i.toNat 0)))) / 18446744073709551616 > 0)) (IntKind.i64.wrap (i + 1)) s (((a * 18446744073709551616 + b) * 10 / 18446744073709551616 * 18446744073709551616 + (a * 18446744073709551616 + b) * 10 % 18446744073709551616 + (0 * 18446744073709551616 + IntKind.u64.wrap (dg (s.getD i.toNat 0)))) / 18446744073709551616) (((a * 18446744073709551616 + b) * 10 / 18446744073709551616 * 18446744073709551616 + (a * 18446744073709551616 + b) * 10 % 18446744073709551616 + (0 * 18446744073709551616 + IntKind.u64.wrap (dg (s.getD i.toNat 0)))) % 18446744073709551616)
          else none
        else none
      else bif decide (IntKind.i64.wrap (i + 1) < s.length) then some (.gto 0, mkSt 96 (st69 0 neg sc over (IntKind.i64.wrap (i + 1)) s) [ob105 0 0, ob137 a b false])
        else tail69 neg sc over (IntKind.i64.wrap (i + 1)) s a b
    else none := by
  cases neg <;> cases over <;> kernel_rfl
end Go.Proofs.YtgikackicafjbaaGreatDoor
set_option linter.unusedVariables false
open Go.Proofs
namespace Go.Proofs.YtgikackicafjbaaGreatDoor
open Go.Pi

/-- The text behind its sign, its whole part, the other one. -/
def digs69 (s : List UInt8) : List UInt8 := bif isFirst 45 s then s.drop 1 else s
def whole69 (s : List UInt8) : List UInt8 := preB 46 (digs69 s)
def part69 (s : List UInt8) : List UInt8 := postB 46 (digs69 s)
def point69 (s : List UInt8) : Bool := (digs69 s).contains 46

def bad69 (s : List UInt8) : Option (Ex × St) := some (.ret, mkSt 96 [(2, .loc 0 0, false), (3, .int .i64 21, false), (5, .bool (isFirst 45 s), false), (9, .int .i64 (part69 s).length, false)] [ob105 0 0])

def go69 (s : List UInt8) : Option (Ex × St) :=
  bif decide ((whole69 s).length + (part69 s).length ≤ 9223372036854775807) then some (.nrm, mkSt 96 (st69 0 (isFirst 45 s) (part69 s).length false 0 (whole69 s ++ part69 s)) [ob105 0 0, ob137 0 0 false]) else none

def go69b (s : List UInt8) : Option (Ex × St) :=
  bif decide (((part69 s).length : Int) > 6) then bad69 s
  else bif decide (((whole69 s).length : Int) > 1) then
    bif decide ((0 : Int) ≤ 0) && decide ((0 : Int) < (whole69 s).length) then
      bif (((whole69 s).getD (0 : Int).toNat 0).toNat : Int) == 48 then bad69 s else go69 s
    else none
  else go69 s

set_option maxRecDepth 100000 in
theorem s69 (ml : Int) (sc' : Code → St → Tree (Ex × St)) (s : List UInt8) :
    (roundT (E69 ml sc') 150 keep69 (uptoL body69 0) (mkSt 96 [(0, .str s, false), (2, .loc 0 0, false), (3, .int .i64 0, false)] [ob105 0 0])).run =
    bif short s then
      bif short (digs69 s) then
        bif whole69 s == [] then bad69 s
        else bif point69 s then (bif part69 s == [] then bad69 s else go69b s) else go69b s
      else none
    else none := by
  kernel_rfl
end Go.Proofs.YtgikackicafjbaaGreatDoor
