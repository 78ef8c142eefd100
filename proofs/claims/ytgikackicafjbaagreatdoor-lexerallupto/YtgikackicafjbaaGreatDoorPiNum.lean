/- Numbers as the machine wraps them. -/
import Derived.Test.YtgikackicafjbaaGreatDoorPiPrim
import Derived.Laws.BitsLemmas
import Derived.Laws.Bits64
namespace Go.Pi
theorem w64 {n : Int} (h0 : -9223372036854775808 ≤ n) (h1 : n < 9223372036854775808) : IntKind.i64.wrap n = n := by rw [IntKind.wrap_i64]; omega
theorem wu64 {n : Int} (h0 : 0 ≤ n) (h1 : n < 18446744073709551616) : IntKind.u64.wrap n = n := by rw [IntKind.wrap_u64]; omega
theorem wu8 {n : Int} (h0 : 0 ≤ n) (h1 : n < 256) : IntKind.u8.wrap n = n := by rw [IntKind.wrap_u8]; omega
theorem u8_lt (b : UInt8) : (b.toNat : Int) < 256 := by have := b.toNat_lt; omega
theorem toU8 (c : UInt8) : (c.toNat : Int).toNat.toUInt8 = c := by simp
theorem dec_true {p : Prop} [Decidable p] (h : p) : decide p = true := decide_eq_true h
theorem dec_false {p : Prop} [Decidable p] (h : ¬ p) : decide p = false := decide_eq_false h
/-- An answer that is need and value. -/
theorem need_ret_inv {α : Type} {c : Bool} {x r : α} (h : (Tree.need c (.ret x)).run = some r) : c = true ∧ x = r := by
  obtain ⟨h1, h2⟩ := tree_need h
  exact ⟨h1, run_ret_inv h2⟩
end Go.Pi
