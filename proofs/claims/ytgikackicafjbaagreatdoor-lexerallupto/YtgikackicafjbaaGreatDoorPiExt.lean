/- Functions without a body. -/
import Derived.Test.YtgikackicafjbaaGreatDoorPiEq
import Derived.Laws.Externs
set_option linter.unusedVariables false
set_option linter.unusedSimpArgs false
namespace Go.Pi

variable {P : Program} {f : FuncId} {fn : Func}

def addX : List PVal → Option PVal
  | [.int _ x, .int _ y, .int _ c] => if c.toNat ≤ 1 then some (.tup [.int .u64 (Int.ofNat ((x.toNat + y.toNat + c.toNat) % 18446744073709551616)), .int .u64 (Int.ofNat ((x.toNat + y.toNat + c.toNat) / 18446744073709551616))]) else none
  | _ => none

def subX : List PVal → Option PVal
  | [.int _ x, .int _ y, .int _ b] => if b.toNat ≤ 1 then some (.tup [.int .u64 (Int.ofNat ((x.toNat + 18446744073709551616 - y.toNat - b.toNat) % 18446744073709551616)), .int .u64 (Int.ofNat (if x.toNat < y.toNat + b.toNat then 1 else 0))]) else none
  | _ => none

theorem three_ints {w : World} {L : Nat → Nat} {m : List Nat} {vs : List Value} {k1 k2 k3 : IntKind} {x y z : Int} (hl : vs.length = 3) (hr : ∀ (i : Nat) (v : Value) (p : PVal), vs[i]? = some v → [PVal.int k1 x, .int k2 y, .int k3 z][i]? = some p → Rep w L m v p) :
    vs = [.int k1 x, .int k2 y, .int k3 z] := by
  match vs, hl with
  | [a, b, c], _ =>
    have h0 := hr 0 a _ rfl rfl
    have h1 := hr 1 b _ rfl rfl
    have h2 := hr 2 c _ rfl rfl
    cases h0; cases h1; cases h2
    rfl

theorem pair_rep (w : World) (L : Nat → Nat) (m : List Nat) (a b : Int) : Rep w L m (.tuple #[.int .u64 a, .int .u64 b]) (.tup [.int .u64 a, .int .u64 b]) := by
  refine .tup _ _ rfl fun i v p hv hp => ?_
  match i with
  | 0 => simp at hv hp; subst hv; subst hp; exact .int _ _
  | 1 => simp at hv hp; subst hv; subst hp; exact .int _ _
  | i + 2 => simp at hp

theorem three_run {w : World} {nm : String} {k1 k2 k3 : IntKind} {x y z : Int} (hz : z.toNat ≤ 1) : (Extern.MathBitsCarry.three nm #[.int k1 x, .int k2 y, .int k3 z]).run P w = .ok (x.toNat, y.toNat, z.toNat) w := by
  match z, hz with
  | .ofNat 0, _ => rfl
  | .ofNat 1, _ => rfl
  | .ofNat (n + 2), h => exact absurd h (by show ¬ (n + 2 ≤ 1); omega)
  | .negSucc n, _ => rfl

theorem add_ok (hf : P.funcs[f]? = some fn) (hname : (fn.name == "runtime.NumGoroutine") = false) (hb : fn.body.isNone = true) (hn : Extern.findNext fn = none) (he : Extern.find fn = (Extern.MathBitsCarry.rows[0]?).map (·.2)) : ExtOK P f addX := by
  intro w L m vs ps x hl hr hx
  unfold addX at hx
  split at hx
  · rename_i k1 a k2 b k3 c
    split at hx
    · rename_i hc
      injection hx with hx
      subst hx
      have := three_ints (by simpa using hl) hr
      subst this
      have he' : Extern.find fn = some _ := he
      refine ⟨.tuple #[.int .u64 _, .int .u64 _], ?_, pair_rep w L m _ _⟩
      rw [run_callFunc_extern hf hname hb hn he']
      simp only [Sem.run_bind, three_run hc, Result.andThen_ok, Sem.run_pure]
      rfl
    · cases hx
  · cases hx

theorem sub_ok (hf : P.funcs[f]? = some fn) (hname : (fn.name == "runtime.NumGoroutine") = false) (hb : fn.body.isNone = true) (hn : Extern.findNext fn = none) (he : Extern.find fn = (Extern.MathBitsCarry.rows[1]?).map (·.2)) : ExtOK P f subX := by
  intro w L m vs ps x hl hr hx
  unfold subX at hx
  split at hx
  · rename_i k1 a k2 b k3 c
    split at hx
    · rename_i hc
      injection hx with hx
      subst hx
      have := three_ints (by simpa using hl) hr
      subst this
      have he' : Extern.find fn = some _ := he
      refine ⟨.tuple #[.int .u64 _, .int .u64 _], ?_, pair_rep w L m _ _⟩
      rw [run_callFunc_extern hf hname hb hn he']
      simp only [Sem.run_bind, three_run hc, Result.andThen_ok, Sem.run_pure]
      rfl
    · cases hx
  · cases hx

end Go.Pi
