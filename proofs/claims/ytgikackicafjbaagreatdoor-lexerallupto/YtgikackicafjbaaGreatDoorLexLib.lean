/- The seat's program as Pi sees it. -/
import Derived.Test.YtgikackicafjbaaGreatDoorPiPrim
import Derived.Test.YtgikackicafjbaaGreatDoorPiExt
import Derived.Test.YtgikackicafjbaaGreatDoorProg
import Derived.KernelRfl
import Derived.Lib.Bytealg
import Derived.Lib.ValidU
import Derived.Lib.ItoaNum
set_option linter.unusedVariables false
open Go.Proofs
namespace Go.Proofs.YtgikackicafjbaaGreatDoor
open Go.Pi

noncomputable def ext : FuncId → Option (List PVal → Option PVal)
  | 123 => some addX
  | 125 => some subX
  | _ => none

def firstTab : List Int := (List.range 256).map fun c => if c < 128 then 240 else if c < 194 then 241 else if c < 224 then 2 else if c = 224 then 19 else if c < 237 then 3 else if c = 237 then 35 else if c < 240 then 3 else if c = 240 then 52 else if c < 244 then 4 else if c = 244 then 68 else 241
def accTab : List Int := [128, 191, 160, 191, 128, 159, 144, 191, 128, 143, 0, 0, 0, 0, 0, 0, 0, 0, 0, 0, 0, 0, 0, 0, 0, 0, 0, 0, 0, 0, 0, 0]
def powTab : List Int := (List.range 20).map fun k => ((10 ^ k : Nat) : Int)

/-- What the package-level variables hold. 'ml': what the library's own internal/bytealg.MaxLen holds: whatever. -/
noncomputable def globs (ml : Int) : Nat → Option PVal
  | 0 => some (.int .i64 ml)
  | 1 => some (.agg (firstTab.map (.int .u8)))
  | 2 => some (.agg (accTab.map (.int .u8)))
  | 5 => some (.agg (powTab.map (.int .u64)))
  | _ => none

noncomputable def lib (ml : Int) : Lib := { P := Tryz.prog, glob := globs ml, eqt := eqOf Tryz.prog, ext := ext }

theorem add123 : ExtOK Tryz.prog 123 addX := add_ok (fn := Tryz.f123) (by kernel_rfl) (by kernel_rfl) (by kernel_rfl) (by kernel_rfl) (by kernel_rfl)
theorem sub125 : ExtOK Tryz.prog 125 subX := sub_ok (fn := Tryz.f125) (by kernel_rfl) (by kernel_rfl) (by kernel_rfl) (by kernel_rfl) (by kernel_rfl)

theorem lib_P (ml : Int) : (lib ml).P = Tryz.prog := by unfold lib; rfl
theorem lib_mixed : Tryz.prog.follows .mixedOrders = true := by kernel_rfl

theorem ints_nl (k : IntKind) (zs : List Int) : NL (.ref (.agg (zs.map (.int k)))) := by
  refine .ref _ fun j p h => ?_
  simp only [PVal.cells, List.getElem?_map] at h
  cases hz : zs[j]? with
  | none => rw [hz] at h; cases h
  | some z => rw [hz] at h; injection h with h; subst h; exact .int _ _

theorem lib_ok (ml : Int) : (lib ml).OK where
  mixed := by rw [lib_P]; exact lib_mixed
  eqt := by
    have e : (lib ml).eqt = eqOf (lib ml).P := by kernel_rfl
    rw [e]
    exact eqOf_ok
  ext := fun f g h => by
    have h : ext f = some g := h
    unfold ext at h
    split at h
    · injection h with h; subst h; exact add123
    · injection h with h; subst h; exact sub125
    · cases h
  globNL := fun g x h => by
    have h : globs ml g = some x := h
    unfold globs at h
    split at h
    · injection h with h; subst h; exact .ref _ fun j p h => by cases j <;> simp [PVal.cells] at h; subst h; exact .int _ _
    · injection h with h; subst h; exact ints_nl _ _
    · injection h with h; subst h; exact ints_nl _ _
    · injection h with h; subst h; exact ints_nl _ _
    · cases h

/- What the library's functions answer. -/
def replB (c : UInt8) (new : List UInt8) : List UInt8 → List UInt8
  | [] => []
  | b :: l => if b == c then new ++ replB c new l else b :: replB c new l
def joinS (sep : List UInt8) : List (List UInt8) → List UInt8
  | [] => []
  | [x] => x
  | x :: l => x ++ sep ++ joinS sep l
def repS (s : List UInt8) : Nat → List UInt8
  | 0 => []
  | n + 1 => s ++ repS s n
/-- The digits of u, as many as fuel allows. -/
def digs : Nat → Nat → List UInt8
  | 0, _ => []
  | k + 1, u => if u < 10 then [UInt8.ofNat (48 + u)] else digs k (u / 10) ++ [UInt8.ofNat (48 + u % 10)]
def trimL (cut : List UInt8) (s : List UInt8) : List UInt8 := s.dropWhile cut.contains
def trimB (cut : List UInt8) (s : List UInt8) : List UInt8 := trimL cut (trimL cut s.reverse).reverse
def isStr : PVal → Bool | .str _ => true | _ => false

noncomputable def gIndexByte : List PVal → Tree PVal
  | [.str s, .int .u8 c] => .ret (.int .i64 (Lib.indexByte s c.toNat.toUInt8))
  | _ => .fail
noncomputable def gJoin : List PVal → Tree PVal
  | [.sl 1 xs, .str sep] => .need (xs.all isStr && decide ((joinS sep (xs.map strOf)).length ≤ 140737488355328) && decide (xs.length ≤ 140737488355328)) (.ret (.str (joinS sep (xs.map strOf))))
  | _ => .fail
noncomputable def gTrim : List PVal → Tree PVal
  | [.str s, .str cut] => .need (decide (s.length ≤ 9223372036854775807) && (cut.all (· < 128)) && decide (cut.length ≤ 1000)) (.ret (.str (trimB cut s)))
  | _ => .fail
noncomputable def gValid : List PVal → Tree PVal
  | [.str s] => .need (decide (s.length ≤ 9223372036854775807)) (.ret (.bool (Lib.validD s)))
  | _ => .fail
noncomputable def gReplace : List PVal → Tree PVal
  | [.str s, .str [c], .str new] => .need (decide (s.length < 4294967281) && decide (new.length ≤ 4)) (.ret (.str (replB c new s)))
  | _ => .fail
noncomputable def gRepeat : List PVal → Tree PVal
  | [.str s, .int .i64 c] => .need (decide (0 ≤ c) && decide (s.length * c.toNat ≤ 140737488355328) && decide (c ≤ 9223372036854775807)) (.ret (.str (repS s c.toNat)))
  | _ => .fail
noncomputable def gFormat : List PVal → Tree PVal
  | [.int .u64 n, .int .i64 10] => .need (decide (0 ≤ n) && decide (n < 18446744073709551616)) (.ret (.str (digs 20 n.toNat)))
  | _ => .fail
noncomputable def gMul : List PVal → Tree PVal
  | [.int .u64 x, .int .u64 y] => .need (decide (0 ≤ x) && decide (x < 18446744073709551616) && decide (0 ≤ y) && decide (y < 18446744073709551616)) (.ret (.tup [.int .u64 (x * y / 18446744073709551616), .int .u64 (x * y % 18446744073709551616)]))
  | _ => .fail

noncomputable def prims : List (FuncId × Ans) :=
  [(21, primA gIndexByte), (30, primA gIndexByte), (25, primA gJoin), (27, primA gTrim), (73, primA gValid), (77, primA gReplace), (108, primA gRepeat), (107, primA gFormat), (122, primA gMul)]

end Go.Proofs.YtgikackicafjbaaGreatDoor
