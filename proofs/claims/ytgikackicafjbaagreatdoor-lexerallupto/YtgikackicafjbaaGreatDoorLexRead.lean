/- datum.Print of a number, a text; datum.read, datum.Parse of what begins with a digit or a quote. -/
import Derived.Test.YtgikackicafjbaaGreatDoorLexPri
set_option linter.unusedVariables false
open Go.Proofs
namespace Go.Proofs.YtgikackicafjbaaGreatDoor
open Go.Pi

def inI64 (n : Int) : Bool := decide (-9223372036854775808 ≤ n) && decide (n < 9223372036854775808)
def printV (k n m : Int) (b : List UInt8) : List UInt8 :=
  bif rightV k n m b then (bif k == 1 then decPr n m.toNat else bif k == 2 then (bif m == 0 then decPr n m.toNat ++ [46] else decPr n m.toNat) else [39] ++ replB 39 [39, 39] b ++ [39]) else []

noncomputable def Es (ml : Int) : Env := (lib ml).envU (kn (D2 ml)) 14 2

set_option maxRecDepth 100000 in
theorem r54a (ml : Int) (n m : Int) (b : List UInt8) : (callT (Es ml) Tryz.f54 [pv 1 n m b] []).run =
  bif short b then bif !rightV 1 n m b then cs [] else bif decide (-9223372036854775808 ≤ n) && decide (n < 9223372036854775808) then cs (bif okScale m then decPr n m.toNat else []) else none else none := by kernel_rfl
set_option maxRecDepth 100000 in
theorem r54b (ml : Int) (n m : Int) (b : List UInt8) : (callT (Es ml) Tryz.f54 [pv 2 n m b] []).run =
  bif short b then bif !rightV 2 n m b then cs [] else bif decide (-9223372036854775808 ≤ n) && decide (n < 9223372036854775808) then
    bif m == 0 then bif decide ((bif okScale m then decPr n m.toNat else []).length + 1 ≤ 9223372036854775807) then cs ((bif okScale m then decPr n m.toNat else []) ++ [46]) else none
    else cs (bif okScale m then decPr n m.toNat else []) else none else none := by kernel_rfl
set_option maxRecDepth 100000 in
theorem r54c (ml : Int) (n m : Int) (b : List UInt8) : (callT (Es ml) Tryz.f54 [pv 3 n m b] []).run =
  bif short b then bif !rightV 3 n m b then cs [] else
    bif decide (b.length < 4294967281) && decide (2 ≤ 4) then
      bif decide (1 + (replB 39 [39, 39] b).length ≤ 9223372036854775807) then
        bif decide (([39] ++ replB 39 [39, 39] b).length + 1 ≤ 9223372036854775807) then cs (([39] ++ replB 39 [39, 39] b) ++ [39]) else none
      else none
    else none else none := by kernel_rfl

/-- What datum.read finds in a number. -/
def num52 (s : List UInt8) : R69 := run69 (bif isLast 46 s then s.dropLast else s)
def firstD : List UInt8 → Bool
  | [] => false
  | c :: _ => isD c
set_option maxRecDepth 100000 in
theorem r52q (ml : Int) (t : List UInt8) : (callT (Es ml) Tryz.f52 [.str (39 :: t)] []).run =
  bif decide ((0 : Int) ≤ 0) && decide ((0 : Int) < (39 :: t).length) then
    bif middle (39 :: t) && decide (1 ≤ (39 :: t).length) then some ⟨.tup [pv 3 0 0 (unq t []).1, .bool (unq t []).2], [false, false], []⟩ else none
  else none := by kernel_rfl
def R52d (s : List UInt8) : Option CR :=
  bif decide ((0 : Int) ≤ 0) && decide ((0 : Int) < s.length) then bif decide ((0 : Int) ≤ 0) && decide ((0 : Int) < s.length) then
    bif short s then bif short (bif isLast 46 s then s.dropLast else s) then
      bif short s then
        bif !s.contains 46 then some ⟨.tup [pv 1 (num52 s).u (num52 s).s [], .bool ((num52 s).e == 0)], [false, false], []⟩
        else some ⟨.tup [pv 2 (num52 s).u (num52 s).s [], .bool ((num52 s).e == 0)], [false, false], []⟩
      else none
    else none else none
  else none else none
set_option maxRecDepth 100000 in
theorem r52d0 (ml : Int) (t : List UInt8) : (callT (Es ml) Tryz.f52 [.str (48 :: t)] []).run = R52d (48 :: t) := by kernel_rfl
set_option maxRecDepth 100000 in
theorem r52d1 (ml : Int) (t : List UInt8) : (callT (Es ml) Tryz.f52 [.str (49 :: t)] []).run = R52d (49 :: t) := by kernel_rfl
set_option maxRecDepth 100000 in
theorem r52d2 (ml : Int) (t : List UInt8) : (callT (Es ml) Tryz.f52 [.str (50 :: t)] []).run = R52d (50 :: t) := by kernel_rfl
set_option maxRecDepth 100000 in
theorem r52d3 (ml : Int) (t : List UInt8) : (callT (Es ml) Tryz.f52 [.str (51 :: t)] []).run = R52d (51 :: t) := by kernel_rfl
set_option maxRecDepth 100000 in
theorem r52d4 (ml : Int) (t : List UInt8) : (callT (Es ml) Tryz.f52 [.str (52 :: t)] []).run = R52d (52 :: t) := by kernel_rfl
set_option maxRecDepth 100000 in
theorem r52d5 (ml : Int) (t : List UInt8) : (callT (Es ml) Tryz.f52 [.str (53 :: t)] []).run = R52d (53 :: t) := by kernel_rfl
set_option maxRecDepth 100000 in
theorem r52d6 (ml : Int) (t : List UInt8) : (callT (Es ml) Tryz.f52 [.str (54 :: t)] []).run = R52d (54 :: t) := by kernel_rfl
set_option maxRecDepth 100000 in
theorem r52d7 (ml : Int) (t : List UInt8) : (callT (Es ml) Tryz.f52 [.str (55 :: t)] []).run = R52d (55 :: t) := by kernel_rfl
set_option maxRecDepth 100000 in
theorem r52d8 (ml : Int) (t : List UInt8) : (callT (Es ml) Tryz.f52 [.str (56 :: t)] []).run = R52d (56 :: t) := by kernel_rfl
set_option maxRecDepth 100000 in
theorem r52d9 (ml : Int) (t : List UInt8) : (callT (Es ml) Tryz.f52 [.str (57 :: t)] []).run = R52d (57 :: t) := by kernel_rfl

theorem isD_cases {c : UInt8} (h : isD c = true) : c = 48 ∨ c = 49 ∨ c = 50 ∨ c = 51 ∨ c = 52 ∨ c = 53 ∨ c = 54 ∨ c = 55 ∨ c = 56 ∨ c = 57 := by
  unfold isD dg at h
  rw [IntKind.wrap_u8] at h
  have hb := c.toNat_lt
  simp only [Bool.not_eq_true', decide_eq_false_iff_not] at h
  have : c.toNat = 48 ∨ c.toNat = 49 ∨ c.toNat = 50 ∨ c.toNat = 51 ∨ c.toNat = 52 ∨ c.toNat = 53 ∨ c.toNat = 54 ∨ c.toNat = 55 ∨ c.toNat = 56 ∨ c.toNat = 57 := by omega
  rcases this with h | h | h | h | h | h | h | h | h | h <;> simp [← UInt8.toNat_inj, h]

theorem r52d (ml : Int) (c : UInt8) (t : List UInt8) (h : isD c = true) : (callT (Es ml) Tryz.f52 [.str (c :: t)] []).run = R52d (c :: t) := by
  rcases isD_cases h with rfl | rfl | rfl | rfl | rfl | rfl | rfl | rfl | rfl | rfl
  · exact r52d0 ml t
  · exact r52d1 ml t
  · exact r52d2 ml t
  · exact r52d3 ml t
  · exact r52d4 ml t
  · exact r52d5 ml t
  · exact r52d6 ml t
  · exact r52d7 ml t
  · exact r52d8 ml t
  · exact r52d9 ml t

theorem D2inl (ml : Int) (h : (lib ml).Knows (kn prims)) {f : FuncId} {fn : Func} (hf : (lib ml).P.funcs[f]? = some fn) (hn : (fn.name == "runtime.NumGoroutine") = false) {args : List PVal} {hh : List Ob} {r : CR} (hr : (callT (Es ml) fn args hh).run = some r) : CallOK (lib ml).P (lib ml).glob f args hh r :=
  inl_ok (lib_ok ml) (D2_ok ml h) 14 2 hf hn args hh r hr

noncomputable def a52 : Ans := fun args h => match args, h with
  | [.str s], [] => .ite (isFirst 39 s) (.need (middle s) (.ret ⟨.tup [pv 3 0 0 (unq (s.drop 1) []).1, .bool (unq (s.drop 1) []).2], [false, false], []⟩))
      (.need (middle s && firstD s) (.ite (s.contains 46) (.ret ⟨.tup [pv 2 (num52 s).u (num52 s).s [], .bool ((num52 s).e == 0)], [false, false], []⟩) (.ret ⟨.tup [pv 1 (num52 s).u (num52 s).s [], .bool ((num52 s).e == 0)], [false, false], []⟩)))
  | _, _ => .fail

theorem a52_ok (ml : Int) (h : (lib ml).Knows (kn prims)) : (lib ml).AnsOK 52 a52 := by
  intro args hh r hr
  unfold a52 at hr
  split at hr
  · rename_i s
    cases hq : isFirst 39 s with
    | true =>
      rw [hq] at hr
      obtain ⟨hc, rfl⟩ := need_ret_inv (show (Tree.need _ (.ret _)).run = some r from hr)
      cases s with
      | nil => cases hq
      | cons c t =>
        have : c = 39 := beq_iff_eq.1 hq
        subst this
        refine D2inl ml h (fn := Tryz.f52) (by kernel_rfl) (by kernel_rfl) ?_
        rw [r52q, bif_true (by simp), bif_true (by rw [hc]; simp)]
        rfl
    | false =>
      rw [hq] at hr
      obtain ⟨hc, hr⟩ := tree_need (show (Tree.need _ _).run = some r from hr)
      simp only [Bool.and_eq_true, middle, decide_eq_true_eq] at hc
      cases s with
      | nil => exact absurd hc.2 (by simp [firstD])
      | cons c t =>
        refine D2inl ml h (fn := Tryz.f52) (by kernel_rfl) (by kernel_rfl) ?_
        rw [r52d ml c t hc.2]
        unfold R52d
        have h1 : short (c :: t) = true := by unfold short; simp only [decide_eq_true_eq]; omega
        have h2 : short (bif isLast 46 (c :: t) then (c :: t).dropLast else (c :: t)) = true := by
          unfold short
          simp only [decide_eq_true_eq]
          cases isLast 46 (c :: t)
          · simp only [cond_false]; omega
          · simp only [cond_true, List.length_dropLast]; omega
        rw [bif_true (by simp), bif_true (by simp), bif_true h1, bif_true h2, bif_true h1, ← hr]
        cases (c :: t).contains 46 <;> rfl
  · cases hr

noncomputable def a54 : Ans := fun args h => match args, h with
  | [.agg [.int .i64 k, .int .i64 n, .int .i64 m, .str b]], [] => .need (short b && decide (b.length < 4294967281) && inI64 n && (k == 1 || k == 2 || k == 3)) (.ret ⟨.str (printV k n m b), [false], []⟩)
  | _, _ => .fail

theorem rep39_len (s : List UInt8) : (replB 39 [39, 39] s).length ≤ 2 * s.length := by
  induction s with
  | nil => simp [replB]
  | cons c s ih => unfold replB; split <;> simp <;> omega

theorem decPr_len (n m : Int) (h : okScale m = true) : (decPr n m.toNat).length ≤ 100 := by
  have h0 : m.toNat ≤ 6 := by
    unfold okScale at h
    by_cases h1 : m < 0
    · rw [dec_true h1] at h; cases h
    · by_cases h2 : m > 6
      · rw [dec_false h1, dec_true h2] at h; cases h
      · omega
  have hl := digs_len 20 n.natAbs
  have hd : (dotT m.toNat (absT n.natAbs m.toNat)).length ≤ 60 := by
    have : (absT n.natAbs m.toNat).length ≤ 27 := by unfold absT; simp [repS_len]; omega
    unfold dotT
    cases (m.toNat == 0) <;> simp <;> omega
  unfold decPr
  cases decide (n < 0) <;> simp <;> omega

theorem right_scale {k n m : Int} {b : List UInt8} (hk : k = 1 ∨ k = 2) (h : rightV k n m b = true) : okScale m = true := by
  unfold rightV at h
  rcases hk with rfl | rfl
  · simp [eqv] at h
    rw [h.1]; rfl
  · have e0 : ((2 : Int) == 0) = false := by decide
    have e1 : ((2 : Int) == 1) = false := by decide
    have e2 : ((2 : Int) == 2) = true := by decide
    rw [e0, e1, e2, cond_false, cond_false, cond_true] at h
    cases hb : (b == []) with
    | true => rw [hb] at h; exact h
    | false => rw [hb] at h; cases h

theorem a54_ok (ml : Int) (h : (lib ml).Knows (kn prims)) : (lib ml).AnsOK 54 a54 := by
  intro args hh r hr
  unfold a54 at hr
  split at hr
  · rename_i k n m b
    obtain ⟨hc, rfl⟩ := need_ret_inv hr
    clear hr
    simp only [Bool.and_eq_true, Bool.or_eq_true, beq_iff_eq, decide_eq_true_eq] at hc
    obtain ⟨⟨⟨hb, hb2⟩, hn⟩, hk⟩ := hc
    have hbl := short_lt hb
    have hn' : (decide (-9223372036854775808 ≤ n) && decide (n < 9223372036854775808)) = true := hn
    refine D2inl ml h (fn := Tryz.f54) (by kernel_rfl) (by kernel_rfl) ?_
    rcases hk with (rfl | rfl) | rfl
    · rw [r54a, bif_true hb, bif_true hn']
      unfold printV
      cases hr : rightV 1 n m b with
      | false => rfl
      | true => rw [right_scale (.inl rfl) hr]; rfl
    · rw [r54b, bif_true hb, bif_true hn']
      unfold printV
      cases hr : rightV 2 n m b with
      | false => rfl
      | true =>
        have hs := right_scale (.inr rfl) hr
        have hl := decPr_len n m hs
        rw [hs]
        simp only [cond_true]
        rw [bif_true (b := decide ((decPr n m.toNat).length + 1 ≤ 9223372036854775807)) (dec_true (by omega))]
        cases m == 0 <;> rfl
    · rw [r54c, bif_true hb]
      have hl := rep39_len b
      unfold printV
      cases hr : rightV 3 n m b with
      | false => rfl
      | true =>
        rw [bif_false (b := !true) rfl, bif_true (b := decide (b.length < 4294967281) && decide (2 ≤ 4)) (by simp; omega), bif_true (dec_true (by omega)), bif_true (dec_true (by simp; omega))]
        rfl
  · cases hr

noncomputable def D3 (ml : Int) : List (FuncId × Ans) := (52, a52) :: (54, a54) :: D2 ml
theorem D3_ok (ml : Int) (h : (lib ml).Knows (kn prims)) : (lib ml).Knows (kn (D3 ml)) := kn_cons (a52_ok ml h) (kn_cons (a54_ok ml h) (D2_ok ml h))

end Go.Proofs.YtgikackicafjbaaGreatDoor
