/- decimal.Print: what it answers. -/
import Derived.Test.YtgikackicafjbaaGreatDoorLexDat
set_option linter.unusedVariables false
open Go.Proofs
namespace Go.Proofs.YtgikackicafjbaaGreatDoor
open Go.Pi

theorem digs_len : ∀ (k n : Nat), (digs k n).length ≤ k
  | 0, n => by simp [digs]
  | k + 1, n => by
    unfold digs
    split
    · simp
    · have := digs_len k (n / 10)
      simp; omega
theorem repS_len (k : Nat) : (repS [48] k).length = k := by
  induction k with
  | zero => rfl
  | succ k ih => simp [repS, ih]

def absT (n sc : Nat) : List UInt8 := repS [48] (sc + 1 - (digs 20 n).length) ++ digs 20 n
def dotT (sc : Nat) (x : List UInt8) : List UInt8 := bif sc == 0 then x else x.take (x.length - sc) ++ [46] ++ x.drop (x.length - sc)
def decPr (u : Int) (sc : Nat) : List UInt8 := bif decide (u < 0) then [45] ++ dotT sc (absT u.natAbs sc) else dotT sc (absT u.natAbs sc)

theorem pad_eq (n sc : Nat) (hs : sc ≤ 6) : pad76 (n : Int) (sc : Int) = ((sc + 1 - (digs 20 n).length : Nat) : Int) := by
  have := digs_len 20 n
  unfold pad76
  simp only [Int.toNat_natCast]
  rw [w64 (n := (sc : Int) + 1) (by omega) (by omega), w64 (by omega) (by omega)]
  split <;> omega

theorem tail_eq (n sc : Nat) (neg : Bool) (hs : sc ≤ 6) (hn : n < 18446744073709551616) : tail76 (n : Int) neg (sc : Int) = cs (bif neg then [45] ++ dotT sc (absT n sc) else dotT sc (absT n sc)) := by
  have hl := digs_len 20 n
  have et : txt76 (n : Int) (sc : Int) = absT n sc := by
    unfold txt76 absT
    rw [pad_eq n sc hs]
    simp
  have ht : (absT n sc).length ≤ 27 := by unfold absT; simp [repS_len]; omega
  have ht2 : sc < (absT n sc).length := by unfold absT; simp [repS_len]; omega
  unfold tail76
  rw [bif_true (by simp; omega), pad_eq n sc hs, bif_true (by simp; omega), bif_true (by simp [repS_len]; omega), et]
  rw [w64 (by omega) (by omega)]
  unfold mid76 fin76
  have hh : ((absT n sc).length : Int) - (sc : Int) = (((absT n sc).length - sc : Nat) : Int) := by omega
  rw [hh]
  rcases Nat.eq_zero_or_pos sc with h0 | h0
  · subst h0
    rw [bif_false (dec_false (by omega))]
    cases neg with
    | false => rfl
    | true => rw [cond_true, bif_true (dec_true (by omega))]; rfl
  · rw [bif_true (dec_true (by omega)), bif_true (by simp), bif_true (by simp)]
    simp only [Int.toNat_natCast, Int.toNat_zero, List.drop_zero]
    rw [bif_true (by simp; omega), bif_true (by simp), bif_true (by simp), bif_true (by simp; omega)]
    have ed : dot76 (absT n sc) (((absT n sc).length - sc : Nat) : Int) = dotT sc (absT n sc) := by
      unfold dot76 dotT
      have : (sc == 0) = false := by simp; omega
      rw [this, cond_false]
      simp
    rw [ed]
    cases neg with
    | false => rfl
    | true =>
      rw [cond_true, bif_true]
      · rfl
      · unfold dotT
        have : (sc == 0) = false := by simp; omega
        rw [this, cond_false]
        simp
        omega

noncomputable def a76 : Ans := fun args h => match args, h with
  | [.agg [.int .i64 u, .int .i64 sc]], [] => .need (decide (-9223372036854775808 ≤ u) && decide (u < 9223372036854775808)) (.ret ⟨.str (bif okScale sc then decPr u sc.toNat else []), [false], []⟩)
  | _, _ => .fail

theorem inlD (ml : Int) (h : (lib ml).Knows (kn prims)) {f : FuncId} {fn : Func} (hf : (lib ml).P.funcs[f]? = some fn) (hn : (fn.name == "runtime.NumGoroutine") = false) {args : List PVal} {hh : List Ob} {r : CR} (hr : (callT (Ds ml) fn args hh).run = some r) : CallOK (lib ml).P (lib ml).glob f args hh r :=
  inl_ok (lib_ok ml) (D1_ok ml h) 14 2 hf hn args hh r hr

theorem a76_ok (ml : Int) (h : (lib ml).Knows (kn prims)) : (lib ml).AnsOK 76 a76 := by
  intro args hh r hr
  unfold a76 at hr
  split at hr
  · rename_i u sc
    obtain ⟨hc, rfl⟩ := need_ret_inv hr
    clear hr
    simp only [Bool.and_eq_true, decide_eq_true_eq] at hc
    refine inlD ml h (fn := Tryz.f76) (by kernel_rfl) (by kernel_rfl) ?_
    rw [r76]
    unfold okScale
    by_cases h1 : sc < 0
    · rw [dec_true h1]; rfl
    · by_cases h2 : sc > 6
      · rw [dec_false h1, dec_true h2]; rfl
      · rw [dec_false h1, dec_false h2]
        simp only [cond_false, cond_true]
        obtain ⟨k, rfl⟩ : ∃ k : Nat, sc = k := ⟨sc.toNat, by omega⟩
        unfold decPr
        simp only [Int.toNat_natCast]
        by_cases h3 : u < 0
        · have e : IntKind.u64.wrap (0 - IntKind.u64.wrap u) = (u.natAbs : Int) := by
            rw [IntKind.wrap_u64, IntKind.wrap_u64]; omega
          rw [dec_true h3, cond_true, cond_true, e, tail_eq u.natAbs k true (by omega) (by omega)]
          rfl
        · have e : IntKind.u64.wrap u = (u.natAbs : Int) := by rw [IntKind.wrap_u64]; omega
          rw [dec_false h3, cond_false, cond_false, e, tail_eq u.natAbs k false (by omega) (by omega)]
          rfl
  · cases hr

noncomputable def a53 : Ans := fun args h => match args, h with
  | [.agg [.int .i64 k, .int .i64 n, .int .i64 m, .str b]], [] => .need (short b) (.ret ⟨.bool (rightV k n m b), [false], []⟩)
  | _, _ => .fail

theorem a53_ok (ml : Int) (h : (lib ml).Knows (kn prims)) : (lib ml).AnsOK 53 a53 := by
  intro args hh r hr
  unfold a53 at hr
  split at hr
  · rename_i k n m b
    obtain ⟨hc, rfl⟩ := need_ret_inv hr
    clear hr
    have hc := short_lt hc
    refine inlD ml h (fn := Tryz.f53) (by kernel_rfl) (by kernel_rfl) ?_
    rw [r53, bif_true (b := decide (b.length ≤ 9223372036854775807)) (dec_true (by omega))]
    unfold rightV okScale okPoint
    cases k == 0 <;> cases k == 1 <;> cases k == 2 <;> cases k == 3 <;> cases k == 4 <;> cases k == 5 <;> try rfl
    all_goals first
      | (cases (b == []) <;> cases decide (m < 0) <;> cases decide (m > 6) <;> rfl)
      | (cases eqv k n m b 3 0 0 b <;> cases decide ((b.length : Int) ≤ 256) <;> rfl)
      | (cases eqv k n m b 4 0 0 [] <;> rfl)
      | (cases (b == []) <;> cases decide (n ≥ -1048576) <;> cases decide (n ≤ 1048576) <;> cases decide (m ≥ -1048576) <;> cases decide (m ≤ 1048576) <;> rfl)
  · cases hr

noncomputable def D2 (ml : Int) : List (FuncId × Ans) := (53, a53) :: (76, a76) :: D1 ml
theorem D2_ok (ml : Int) (h : (lib ml).Knows (kn prims)) : (lib ml).Knows (kn (D2 ml)) := kn_cons (a53_ok ml h) (kn_cons (a76_ok ml h) (D1_ok ml h))

end Go.Proofs.YtgikackicafjbaaGreatDoor
