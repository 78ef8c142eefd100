/- lexer.scan: what it answers. -/
import Derived.Test.YtgikackicafjbaaGreatDoorLexScan
set_option linter.unusedVariables false
open Go.Proofs
namespace Go.Proofs.YtgikackicafjbaaGreatDoor
open Go.Pi

def wlen : List UInt8 → Nat
  | [] => 0
  | c :: r => bif isW c then wlen r + 1 else 0
def nlen : Bool → List UInt8 → Nat
  | _, [] => 0
  | p, c :: r => bif isD c then nlen p r + 1 else bif c == 46 && !p then nlen true r + 1 else 0
def qlen : List UInt8 → Option Nat
  | [] => none
  | [c] => bif c == 39 then some 1 else none
  | c :: c2 :: r => bif c == 39 then (bif c2 == 39 then (qlen r).map (· + 2) else some 1) else (qlen (c2 :: r)).map (· + 1)

def v0 : V4 := ⟨0, 0, 0, []⟩
/-- A token's kind, its length, its value; the value that was looked for. -/
structure R22 where
  k : Int
  n : Nat
  v : V4
  l : Option V4
def litR (t : List UInt8) (n : Nat) : R22 := bif is34 (t.take n) then ⟨3, n, val34 (t.take n), some (val34 (t.take n))⟩ else ⟨0, n, v0, some v0⟩
def twoB (t : List UInt8) : Bool := (t.take 2 == [60, 62]) || (t.take 2 == [60, 61]) || (t.take 2 == [62, 61])
def scanR : List UInt8 → R22
  | [] => ⟨0, 0, v0, none⟩
  | c :: r =>
    bif isL c then (bif wordB ((c :: r).take (1 + wlen r)) then ⟨1, 1 + wlen r, v0, none⟩ else ⟨0, 1 + wlen r, v0, none⟩)
    else bif isD c then litR (c :: r) (1 + nlen false r)
    else bif c == 39 then (match qlen r with | none => ⟨0, 1 + r.length, v0, none⟩ | some q => litR (c :: r) (1 + q))
    else bif twoB (c :: r) then ⟨2, 2, v0, none⟩
    else bif signs.contains c then ⟨2, 1, v0, none⟩
    else ⟨0, 0, v0, none⟩
def R22.tok (R : R22) (t : List UInt8) (i : Int) : List PVal := tokL R.k (bif R.k == 0 then [] else t.take R.n) R.v.k R.v.n R.v.m R.v.b (bif R.k == 0 then 0 else i)
def R22.obs (R : R22) (t : List UInt8) (i : Int) : List Ob :=
  ⟨38, R.tok t i, [false, false, false, false, false, false, false]⟩ :: (match R.l with | none => [] | some v => [ob36 v.k v.n v.m v.b])
def R22.stj (R : R22) (s : List UInt8) (f : Nat) (j : Int) : Ex × St := (.ret, mkSt 163 (st22 ((f + R.n : Nat) : Int) j f s) (R.obs (s.drop f) f))
def R22.st (R : R22) (s : List UInt8) (f : Nat) : Ex × St := R.stj s f ((f + R.n : Nat) : Int)

variable {ml : Int} {sc' : Code → St → Tree (Ex × St)} {s : List UInt8}

theorem may_ok {f i : Nat} (h1 : f ≤ i) (h2 : i ≤ s.length) (r : Option (Ex × St)) : may22 s (f : Int) (i : Int) r = r := by
  unfold may22
  rw [bif_true (by simp; omega), bif_true (by simp; omega)]
theorem in_ok {i : Nat} (h : i < s.length) (r : Option (Ex × St)) : in22 s (i : Int) r = r := by
  unfold in22
  rw [bif_true (by simp; omega)]
theorem cut_nat (f i : Nat) : cut22 s (f : Int) (i : Int) = (s.drop f).take (i - f) := by
  unfold cut22
  simp only [Int.toNat_natCast]
  rw [List.drop_take]
theorem at_nat {i : Nat} {c : UInt8} {l : List UInt8} (h : s.drop i = c :: l) : at22 s (i : Int) = c := by
  unfold at22
  simp only [Int.toNat_natCast]
  exact (get_at h).2.1
theorem wi (i : Nat) (h : i < 9223372036854775806) : IntKind.i64.wrap ((i : Int) + 1) = ((i + 1 : Nat) : Int) := by rw [w64 (by omega) (by omega)]; omega

def G22 (ml : Int) (sc' : Code → St → Tree (Ex × St)) (l : Nat) (s : List UInt8) (f i : Int) (X : Ex × St) : Prop := JS (E22 ml sc') 150 keep22 body22 (restOf body22 l) (mkSt 163 (st22 0 i f s) [ob38z]) X

theorem jsw (hs : s.length < 4611686018427387904) (f : Int) : ∀ (r : List UInt8) (i : Nat) (X : Ex × St), s.drop (i + 1) = r → i < s.length → endw22 s f ((i + 1 + wlen r : Nat) : Int) = some X → X.1.isGto = false → G22 ml sc' 0 s f i X
  | [], i, X, hr, hi, he, hX => by
    have hl : s.length ≤ i + 1 := by
      have := congrArg List.length hr
      simp at this; omega
    have q := q22w ml sc' s f i
    rw [wi i (by omega)] at q
    unfold word22 at q
    rw [bif_false (dec_false (by omega))] at q
    exact .out (q.trans he) hX
  | c :: r, i, X, hr, hi, he, hX => by
    obtain ⟨h1, _, h3⟩ := get_at hr
    have q := q22w ml sc' s f i
    rw [wi i (by omega)] at q
    unfold word22 at q
    rw [bif_true (dec_true (by omega)), in_ok h1, in_ok h1, at_nat hr, digF_isD] at q
    have eL : letF (c.toNat : Int) = isL c := rfl
    rw [eL] at q
    cases hL : isL c with
    | true =>
      rw [hL] at q
      rw [show wlen (c :: r) = wlen r + 1 by simp [wlen, isW, hL], show i + 1 + (wlen r + 1) = (i + 1) + 1 + wlen r by omega] at he
      exact .next (rest := restOf body22 0) q (by kernel_rfl) (jsw hs f r (i + 1) X h3 h1 he hX)
    | false =>
      cases hD : isD c with
      | true =>
        rw [hL, hD] at q
        rw [show wlen (c :: r) = wlen r + 1 by simp [wlen, isW, hD], show i + 1 + (wlen r + 1) = (i + 1) + 1 + wlen r by omega] at he
        exact .next (rest := restOf body22 0) q (by kernel_rfl) (jsw hs f r (i + 1) X h3 h1 he hX)
      | false =>
        rw [hL, hD] at q
        rw [show wlen (c :: r) = 0 by simp [wlen, isW, hL, hD]] at he
        exact .out (q.trans he) hX

theorem cut_snoc {f i : Nat} {c : UInt8} {l : List UInt8} (hf : f ≤ i) (h : s.drop i = c :: l) : cut22 s f ((i + 1 : Nat) : Int) = cut22 s f (i : Int) ++ [c] := by
  obtain ⟨h1, h2, _⟩ := get_at h
  rw [cut_nat, cut_nat, show i + 1 - f = (i - f) + 1 by omega, List.take_succ_eq_append_getElem (by simp; omega)]
  congr 2
  simp only [List.getElem_drop]
  have : s.getD i 0 = s[i] := by simp [List.getD_eq_getElem?_getD, h1]
  rw [this] at h2
  rw [← h2]
  congr 1
  omega

theorem jsn (hs : s.length < 4611686018427387904) (f : Nat) : ∀ (r : List UInt8) (i : Nat) (p : Bool) (X : Ex × St), s.drop (i + 1) = r → i < s.length → f ≤ i → (cut22 s f ((i + 1 : Nat) : Int)).contains 46 = p → lit22 s f ((i + 1 + nlen p r : Nat) : Int) = some X → X.1.isGto = false → G22 ml sc' 1 s f i X
  | [], i, p, X, hr, hi, hf, hp, he, hX => by
    have hl : s.length ≤ i + 1 := by
      have := congrArg List.length hr
      simp at this; omega
    have q := q22n ml sc' s f i
    rw [wi i (by omega)] at q
    unfold num22 at q
    rw [bif_false (dec_false (by omega))] at q
    exact .next (rest := restOf body22 3) q (by kernel_rfl) (.out ((q22l ml sc' s f _).trans he) hX)
  | c :: r, i, p, X, hr, hi, hf, hp, he, hX => by
    obtain ⟨h1, _, h3⟩ := get_at hr
    have q := q22n ml sc' s f i
    rw [wi i (by omega)] at q
    unfold num22 at q
    rw [bif_true (dec_true (by omega)), in_ok h1, in_ok h1, at_nat hr, digF_isD] at q
    have e46 : ((c.toNat : Int) == 46) = (c == 46) := by
      rw [Bool.eq_iff_iff, beq_iff_eq, beq_iff_eq]
      constructor
      · intro h; apply UInt8.toNat_inj.1; simpa using (by omega : c.toNat = 46)
      · rintro rfl; rfl
    have hsh : short (cut22 s f ((i + 1 : Nat) : Int)) = true := by rw [cut_nat]; unfold short; simp; omega
    rw [e46, may_ok (by omega) (by omega), bif_true hsh, hp] at q
    have hsn := cut_snoc (s := s) (f := f) (by omega) hr
    cases hD : isD c with
    | true =>
      rw [hD] at q
      rw [show nlen p (c :: r) = nlen p r + 1 by simp [nlen, hD], show i + 1 + (nlen p r + 1) = (i + 1) + 1 + nlen p r by omega] at he
      refine .next (rest := restOf body22 1) q (by kernel_rfl) (jsn hs f r (i + 1) p X h3 h1 (by omega) ?_ he hX)
      rw [hsn]
      have : c ≠ 46 := by rintro rfl; exact absurd hD (by decide)
      simp only [List.contains_eq_mem, List.mem_append, List.mem_singleton] at hp ⊢
      rw [← hp]
      simp [this.symm]
    | false =>
      rw [hD] at q
      cases h46 : (c == 46) with
      | false =>
        rw [h46] at q
        rw [show nlen p (c :: r) = 0 by simp [nlen, hD, h46]] at he
        exact .next (rest := restOf body22 3) q (by kernel_rfl) (.out ((q22l ml sc' s f _).trans he) hX)
      | true =>
        have : c = 46 := beq_iff_eq.1 h46
        subst this
        cases p with
        | true =>
          rw [show nlen true (46 :: r) = 0 by simp [nlen, hD]] at he
          exact .next (rest := restOf body22 3) q (by kernel_rfl) (.out ((q22l ml sc' s f _).trans he) hX)
        | false =>
          rw [show nlen false (46 :: r) = nlen true r + 1 by simp [nlen, hD], show i + 1 + (nlen true r + 1) = (i + 1) + 1 + nlen true r by omega] at he
          refine .next (rest := restOf body22 1) q (by kernel_rfl) (jsn hs f r (i + 1) true X h3 h1 (by omega) ?_ he hX)
          rw [hsn]
          simp

theorem jst (hs : s.length < 4611686018427387904) (f : Nat) : ∀ (k : Nat) (r : List UInt8) (i : Nat) (X : Ex × St), r.length ≤ k → s.drop (i + 1) = r → i < s.length →
    (match qlen r with | none => none22 s f (s.length : Int) | some q => lit22 s f ((i + 1 + q : Nat) : Int)) = some X → X.1.isGto = false → G22 ml sc' 2 s f i X
  | k, [], i, X, hk, hr, hi, he, hX => by
    have hl : s.length = i + 1 := by
      have := congrArg List.length hr
      simp at this; omega
    have q := q22t ml sc' s f i
    rw [wi i (by omega)] at q
    unfold txt22 at q
    rw [bif_true (dec_true (by omega)), ← hl] at q
    exact .out (q.trans he) hX
  | 0, c :: r, i, X, hk, hr, hi, he, hX => by simp at hk
  | k + 1, c :: r, i, X, hk, hr, hi, he, hX => by
    simp only [List.length_cons] at hk
    obtain ⟨h1, _, h3⟩ := get_at hr
    have q := q22t ml sc' s f i
    rw [wi i (by omega)] at q
    unfold txt22 at q
    rw [bif_false (dec_false (by omega)), in_ok h1, at_nat hr, wi (i + 1) (by omega)] at q
    have e39 : ∀ c : UInt8, ((c.toNat : Int) == 39) = (c == 39) := by
      intro c
      rw [Bool.eq_iff_iff, beq_iff_eq, beq_iff_eq]
      constructor
      · intro h; apply UInt8.toNat_inj.1; simpa using (by omega : c.toNat = 39)
      · rintro rfl; rfl
    unfold bne at q
    rw [e39] at q
    cases hc : (c == 39) with
    | false =>
      rw [hc] at q
      refine .next (rest := restOf body22 2) q (by kernel_rfl) (jst hs f k r (i + 1) X (by omega) h3 h1 ?_ hX)
      cases r with
      | nil => simpa [qlen, hc] using he
      | cons c2 r2 =>
        simp only [qlen, hc, cond_false] at he
        cases hq : qlen (c2 :: r2) with
        | none => rw [hq] at he; exact he
        | some n =>
          rw [hq] at he
          simp only [Option.map_some] at he
          rw [show i + 1 + (n + 1) = (i + 1) + 1 + n by omega] at he
          exact he
    | true =>
      rw [hc] at q
      simp only [Bool.not_true, cond_false] at q
      cases r with
      | nil =>
        have hl : s.length = i + 2 := by
          have := congrArg List.length h3
          simp at this; omega
        rw [bif_false (dec_false (by omega))] at q
        simp only [qlen, hc, cond_true] at he
        exact .out (q.trans he) hX
      | cons c2 r2 =>
        obtain ⟨g1, _, g3⟩ := get_at h3
        rw [bif_true (dec_true (by omega)), in_ok g1, at_nat h3, e39] at q
        simp only [List.length_cons] at hk
        cases hc2 : (c2 == 39) with
        | true =>
          rw [hc2] at q
          refine .next (rest := restOf body22 2) q (by kernel_rfl) (jst hs f k r2 (i + 2) X (by omega) g3 g1 ?_ hX)
          simp only [qlen, hc, hc2, cond_true] at he
          cases hq : qlen r2 with
          | none => rw [hq] at he; exact he
          | some n =>
            rw [hq] at he
            simp only [Option.map_some] at he
            rw [show i + 1 + (n + 2) = (i + 2) + 1 + n by omega] at he
            exact he
        | false =>
          rw [hc2] at q
          simp only [qlen, hc, hc2, cond_true, cond_false] at he
          exact .out (q.trans he) hX
end Go.Proofs.YtgikackicafjbaaGreatDoor
