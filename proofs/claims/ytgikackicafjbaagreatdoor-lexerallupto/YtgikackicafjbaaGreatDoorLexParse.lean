/- datum.Parse of what begins with a digit or a quote. -/
import Derived.Test.YtgikackicafjbaaGreatDoorLexRead
set_option linter.unusedVariables false
open Go.Proofs
namespace Go.Proofs.YtgikackicafjbaaGreatDoor
open Go.Pi

noncomputable def Fs (ml : Int) : Env := (lib ml).envU (kn (D3 ml)) 14 2
abbrev ok34 (k n m : Int) (b : List UInt8) : Option CR := some ⟨.tup [pv k n m b, .int .i64 0], [false, false], []⟩
abbrev bad34 : Option CR := some ⟨.tup [pv 0 0 0 [], .int .i64 21], [false, false], []⟩
def leaf34 (s : List UInt8) (k n m : Int) (b : List UInt8) (ok : Bool) : Option CR :=
  bif ok then bif short b then bif rightV k n m b then
    bif short b && decide (b.length < 4294967281) && inI64 n && (k == 1 || k == 2 || k == 3) then bif printV k n m b == s then ok34 k n m b else bad34 else none
  else bad34 else none else bad34

set_option maxRecDepth 100000 in
theorem r34 (ml : Int) (s : List UInt8) : (callT (Fs ml) Tryz.f34 [.str s] []).run =
  bif isFirst 39 s then bif middle s then leaf34 s 3 0 0 (unq (s.drop 1) []).1 (unq (s.drop 1) []).2 else none
  else bif middle s && firstD s then
    bif s.contains 46 then leaf34 s 2 (num52 s).u (num52 s).s [] ((num52 s).e == 0) else leaf34 s 1 (num52 s).u (num52 s).s [] ((num52 s).e == 0)
  else none := by kernel_rfl

/-- A value. -/
structure V4 where
  k : Int
  n : Int
  m : Int
  b : List UInt8
  deriving DecidableEq
def V4.p (v : V4) : PVal := pv v.k v.n v.m v.b
/-- What stands there, if it is one. -/
def cand34 (s : List UInt8) : V4 :=
  bif isFirst 39 s then ⟨3, 0, 0, (unq (s.drop 1) []).1⟩ else bif s.contains 46 then ⟨2, (num52 s).u, (num52 s).s, []⟩ else ⟨1, (num52 s).u, (num52 s).s, []⟩
def said34 (s : List UInt8) : Bool := bif isFirst 39 s then (unq (s.drop 1) []).2 else (num52 s).e == 0
def is34 (s : List UInt8) : Bool :=
  said34 s && rightV (cand34 s).k (cand34 s).n (cand34 s).m (cand34 s).b && (printV (cand34 s).k (cand34 s).n (cand34 s).m (cand34 s).b == s)
def val34 (s : List UInt8) : V4 := bif is34 s then cand34 s else ⟨0, 0, 0, []⟩
def err34 (s : List UInt8) : Int := bif is34 s then 0 else 21

noncomputable def a34 : Ans := fun args h => match args, h with
  | [.str s], [] => .need (decide (s.length < 4294967281) && (isFirst 39 s || firstD s)) (.ret ⟨.tup [pv (val34 s).k (val34 s).n (val34 s).m (val34 s).b, .int .i64 (err34 s)], [false, false], []⟩)
  | _, _ => .fail

theorem unq_len : ∀ (k : Nat) (l acc : List UInt8), l.length ≤ k → (unq l acc).1.length ≤ acc.length + l.length
  | k, [], acc, _ => by simp [unq]
  | k, [c], acc, _ => by unfold unq; cases (c == 39) <;> simp
  | 0, c :: c2 :: l, acc, h => by simp at h
  | k + 1, c :: c2 :: l, acc, h => by
    simp only [List.length_cons] at h
    unfold unq
    cases (c == 39) with
    | true =>
      cases (c2 == 39) with
      | true => have := unq_len k l (acc ++ [c]) (by omega); simp at this ⊢; omega
      | false => simp
    | false => have := unq_len k (c2 :: l) (acc ++ [c]) (by simp; omega); simp at this ⊢; omega

theorem backU_in (a b : Int) (g : Bool) (hb : 0 ≤ b) : inI64 (backU a b g) = true := by
  have h0 : inI64 0 = true := by decide
  have hw : ∀ x : Int, inI64 (IntKind.i64.wrap x) = true := by
    intro x
    rw [IntKind.wrap_i64]
    simp only [inI64, Bool.and_eq_true, decide_eq_true_eq]
    omega
  unfold backU
  cases (backE a b g == 0) with
  | false => exact h0
  | true => cases g <;> exact hw _
theorem fin69_in (neg : Bool) (sc : Int) : ∀ (l : List UInt8) (v : Int) (o : Bool), inI64 (fin69 neg sc l v o).u = true
  | [], v, o => by
    unfold fin69
    cases (bif neg then v == 0 else false) with
    | true => rfl
    | false =>
      cases o with
      | true => rfl
      | false => exact backU_in _ _ _ (by omega)
  | c :: l, v, o => by
    unfold fin69
    cases isD c with
    | false => rfl
    | true => cases o <;> exact fin69_in neg sc l _ _
theorem run69_in (s : List UInt8) : inI64 (run69 s).u = true := by
  unfold run69
  cases early69 s with
  | true => rfl
  | false => exact fin69_in _ _ _ _ _

theorem leaf_eq (s : List UInt8) (k n m : Int) (b : List UInt8) (ok : Bool) (hb : b.length < 4294967281) (hn : inI64 n = true) (hk : (k == 1 || k == 2 || k == 3) = true) :
    leaf34 s k n m b ok = bif ok && rightV k n m b && (printV k n m b == s) then ok34 k n m b else bad34 := by
  have hs : short b = true := by unfold short; simp only [decide_eq_true_eq]; omega
  unfold leaf34
  rw [hs, hn, hk, dec_true hb]
  cases ok <;> cases rightV k n m b <;> cases (printV k n m b == s) <;> rfl

theorem a34_ok (ml : Int) (h : (lib ml).Knows (kn prims)) : (lib ml).AnsOK 34 a34 := by
  intro args hh r hr
  unfold a34 at hr
  split at hr
  · rename_i s
    obtain ⟨hc, rfl⟩ := need_ret_inv hr
    clear hr
    simp only [Bool.and_eq_true, Bool.or_eq_true, decide_eq_true_eq] at hc
    have hm : middle s = true := by unfold middle; simp only [decide_eq_true_eq]; omega
    refine inl_ok (lib_ok ml) (D3_ok ml h) 14 2 (f := 34) (fn := Tryz.f34) (by kernel_rfl) (by kernel_rfl) _ _ _ ?_
    refine (r34 ml s).trans ?_
    unfold val34 err34 is34 said34 cand34
    cases hq : isFirst 39 s with
    | true =>
      rw [cond_true, bif_true hm, leaf_eq _ _ _ _ _ _ (by have := unq_len _ (s.drop 1) [] (Nat.le_refl _); simp only [List.length_drop, List.length_nil] at this; omega) (by rfl) (by rfl)]
      simp only [cond_true]
      cases ((unq (s.drop 1) []).2 && rightV 3 0 0 (unq (s.drop 1) []).1 && (printV 3 0 0 (unq (s.drop 1) []).1 == s)) <;> rfl
    | false =>
      have hd : firstD s = true := by
        rcases hc.2 with h | h
        · rw [hq] at h; cases h
        · exact h
      have hn : inI64 (num52 s).u = true := run69_in _
      rw [cond_false, bif_true (by rw [hm, hd]; rfl), leaf_eq _ _ _ _ _ _ (by simp) hn (by rfl), leaf_eq _ _ _ _ _ _ (by simp) hn (by rfl)]
      simp only [cond_false]
      cases s.contains 46 with
      | true =>
        simp only [cond_true]
        cases (((num52 s).e == 0) && rightV 2 (num52 s).u (num52 s).s [] && (printV 2 (num52 s).u (num52 s).s [] == s)) <;> rfl
      | false =>
        simp only [cond_false]
        cases (((num52 s).e == 0) && rightV 1 (num52 s).u (num52 s).s [] && (printV 1 (num52 s).u (num52 s).s [] == s)) <;> rfl
  · cases hr

noncomputable def F1 (ml : Int) : List (FuncId × Ans) := (34, a34) :: C1 ml
theorem F1_ok (ml : Int) (h : (lib ml).Knows (kn prims)) : (lib ml).Knows (kn (F1 ml)) := kn_cons (a34_ok ml h) (C1_ok ml h)
end Go.Proofs.YtgikackicafjbaaGreatDoor
