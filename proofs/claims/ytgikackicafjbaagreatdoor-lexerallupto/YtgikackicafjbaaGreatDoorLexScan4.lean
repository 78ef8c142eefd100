/- lexer.scan, told. -/
import Derived.Test.YtgikackicafjbaaGreatDoorLexScan3
set_option linter.unusedVariables false
open Go.Proofs
namespace Go.Proofs.YtgikackicafjbaaGreatDoor
open Go.Pi

variable {s : List UInt8}

theorem lit_eq {f n : Nat} (h : f + n ≤ s.length) (hs : s.length < 4294967281) (hc : (isFirst 39 ((s.drop f).take n) || firstD ((s.drop f).take n)) = true) :
    lit22 s f ((f + n : Nat) : Int) = some ((litR (s.drop f) n).st s f) := by
  unfold lit22
  rw [may_ok (by omega) h, may_ok (by omega) h, cut_nat, show f + n - f = n by omega]
  have hb : (decide (((s.drop f).take n).length < 4294967281) && (isFirst 39 ((s.drop f).take n) || firstD ((s.drop f).take n))) = true := by
    rw [hc]; simp; omega
  rw [bif_true hb]
  unfold litR R22.st R22.stj R22.obs R22.tok err34 val34
  cases is34 ((s.drop f).take n) with
  | true => rfl
  | false => rfl

theorem wlen_le (r : List UInt8) : wlen r ≤ r.length := by
  induction r with
  | nil => simp [wlen]
  | cons c r ih => unfold wlen; cases isW c <;> simp; omega
theorem nlen_le (p : Bool) (r : List UInt8) : nlen p r ≤ r.length := by
  induction r generalizing p with
  | nil => simp [nlen]
  | cons c r ih =>
    unfold nlen
    cases isD c with
    | true => have := ih p; simp; omega
    | false =>
      cases (c == 46 && !p) with
      | true => have := ih true; simp; omega
      | false => simp
theorem qlen_le : ∀ (k : Nat) (r : List UInt8) (q : Nat), r.length ≤ k → qlen r = some q → q ≤ r.length
  | k, [], q, _, h => by simp [qlen] at h
  | k, [c], q, _, h => by
    unfold qlen at h
    cases hc : (c == 39) <;> rw [hc] at h
    · cases h
    · injection h with h; subst h; simp
  | 0, c :: c2 :: r, q, hk, h => by simp at hk
  | k + 1, c :: c2 :: r, q, hk, h => by
    simp only [List.length_cons] at hk
    unfold qlen at h
    cases hc : (c == 39) with
    | true =>
      rw [hc] at h
      cases hc2 : (c2 == 39) with
      | true =>
        rw [hc2] at h
        simp only [cond_true, Option.map_eq_some_iff] at h
        obtain ⟨q', hq, rfl⟩ := h
        have := qlen_le k r q' (by omega) hq
        simp; omega
      | false => rw [hc2] at h; injection h with h; subst h; simp
    | false =>
      rw [hc] at h
      simp only [cond_false, Option.map_eq_some_iff] at h
      obtain ⟨q', hq, rfl⟩ := h
      have := qlen_le k (c2 :: r) q' (by simp; omega) hq
      simp at this ⊢; omega

theorem idx_nonneg (c : UInt8) (l : List UInt8) : decide (Lib.indexByte l c ≥ 0) = l.contains c := by
  cases h : l.contains c with
  | true => rw [(idx_spec c l).1 h]; simp
  | false => rw [(idx_spec c l).2 h]; rfl

theorem litR_gto (t : List UInt8) (n : Nat) (s : List UInt8) (f : Nat) : ((litR t n).st s f).1.isGto = false := rfl

theorem ju22 (ml : Int) (sc' : Code → St → Tree (Ex × St)) (hs : s.length < 4294967281) {f : Nat} (hf : f < s.length) :
    ∃ j, JU (E22 ml sc') 150 keep22 body22 0 (restOf body22 0) (mkSt 163 [(0, .str s, false), (1, .int .i64 (f : Int), false), (4, .loc 0 0, false), (5, .int .i64 0, false)] [ob38z]) ((scanR (s.drop f)).stj s f j) := by
  have q := s22 ml sc' s f
  obtain ⟨c, r, hr⟩ : ∃ c r, s.drop f = c :: r := ⟨_, _, List.drop_eq_getElem_cons hf⟩
  obtain ⟨_, _, h3⟩ := get_at hr
  have hrl : r.length + f + 1 = s.length := by
    have := congrArg List.length hr
    simp at this; omega
  unfold start22 at q
  have e39 : ((c.toNat : Int) == 39) = (c == 39) := by
    rw [Bool.eq_iff_iff, beq_iff_eq, beq_iff_eq]
    constructor
    · intro h; apply UInt8.toNat_inj.1; simpa using (by omega : c.toNat = 39)
    · rintro rfl; rfl
  have eL : letF (c.toNat : Int) = isL c := rfl
  rw [in_ok hf, at_nat hr, digF_isD, eL, e39] at q
  cases hL : isL c with
  | true =>
    rw [hL] at q
    refine ⟨((f + (scanR (s.drop f)).n : Nat) : Int), .jump 0 (restOf body22 0) _ q (by kernel_rfl) ?_⟩
    have hw := wlen_le r
    have key : endw22 s f ((f + 1 + wlen r : Nat) : Int) = some ((scanR (s.drop f)).st s f) := by
      unfold endw22
      rw [may_ok (by omega) (by omega), may_ok (by omega) (by omega), cut_nat, show f + 1 + wlen r - f = 1 + wlen r by omega, hr]
      rw [bif_true (by unfold short; simp; omega)]
      cases hwB : wordB ((c :: r).take (1 + wlen r)) with
      | true =>
        have e : scanR (c :: r) = ⟨1, 1 + wlen r, v0, none⟩ := by simp [scanR, hL, hwB]
        rw [e]
        unfold R22.st R22.stj R22.obs R22.tok
        rw [hr, show f + 1 + wlen r = f + (1 + wlen r) by omega]
        rfl
      | false =>
        have e : scanR (c :: r) = ⟨0, 1 + wlen r, v0, none⟩ := by simp [scanR, hL, hwB]
        rw [e]
        unfold R22.st R22.stj R22.obs R22.tok none22
        rw [hr, show f + 1 + wlen r = f + (1 + wlen r) by omega]
        rfl
    exact jsw (by omega) f r f _ h3 hf key rfl
  | false =>
    rw [hL] at q
    simp only [cond_false] at q
    cases hD : isD c with
    | true =>
      rw [hD] at q
      refine ⟨((f + (scanR (s.drop f)).n : Nat) : Int), .jump 1 (restOf body22 1) _ q (by kernel_rfl) ?_⟩
      have hn := nlen_le false r
      have e : scanR (s.drop f) = litR (s.drop f) (1 + nlen false r) := by rw [hr]; simp [scanR, hL, hD]
      rw [e]
      refine jsn (by omega) f r f false _ h3 hf (Nat.le_refl _) ?_ ?_ rfl
      · rw [cut_snoc (Nat.le_refl _) hr, cut_nat]
        have : c ≠ 46 := by rintro rfl; exact absurd hD (by decide)
        simp [this.symm]
      · rw [show f + 1 + nlen false r = f + (1 + nlen false r) by omega]
        refine lit_eq (by omega) hs ?_
        rw [hr, show 1 + nlen false r = nlen false r + 1 by omega, List.take_succ_cons]
        simp [firstD, hD]
    | false =>
      rw [hD] at q
      simp only [cond_false] at q
      cases hq : (c == 39) with
      | true =>
        rw [hq] at q
        refine ⟨((f + (scanR (s.drop f)).n : Nat) : Int), .jump 2 (restOf body22 2) _ q (by kernel_rfl) ?_⟩
        cases hk : qlen r with
        | none =>
          have e : scanR (s.drop f) = ⟨0, 1 + r.length, v0, none⟩ := by rw [hr]; simp [scanR, hL, hD, hq, hk]
          rw [e]
          refine jst (by omega) f r.length r f _ (Nat.le_refl _) h3 hf ?_ rfl
          rw [hk]
          unfold none22 R22.stj R22.obs R22.tok
          simp only
          rw [show f + (1 + r.length) = s.length by omega]
          rfl
        | some n =>
          have hn := qlen_le r.length r n (Nat.le_refl _) hk
          have e : scanR (s.drop f) = litR (s.drop f) (1 + n) := by rw [hr]; simp [scanR, hL, hD, hq, hk]
          rw [e]
          refine jst (by omega) f r.length r f _ (Nat.le_refl _) h3 hf ?_ rfl
          rw [hk]
          simp only
          rw [show f + 1 + n = f + (1 + n) by omega]
          refine lit_eq (by omega) hs ?_
          rw [hr, show 1 + n = n + 1 by omega, List.take_succ_cons]
          simp [isFirst, hq]
      | false =>
        rw [hq] at q
        simp only [cond_false] at q
        have e : scanR (s.drop f) = bif twoB (c :: r) then ⟨2, 2, v0, none⟩ else bif signs.contains c then ⟨2, 1, v0, none⟩ else ⟨0, 0, v0, none⟩ := by rw [hr]; simp only [scanR, hL, hD, hq, cond_false]
        rw [e]
        refine ⟨f, .out ?_ rfl rfl⟩
        refine q.trans ?_
        have one : one22 s f = some ((bif signs.contains c then (⟨2, 1, v0, none⟩ : R22) else ⟨0, 0, v0, none⟩).stj s f f) := by
          unfold one22
          rw [at_nat hr, toU8, idx_nonneg, wi f (by omega)]
          unfold sgn22 none22 R22.stj R22.obs R22.tok
          rw [may_ok (by omega) (by omega), cut_nat, show f + 1 - f = 1 by omega]
          cases signs.contains c <;> rfl
        unfold two22
        have w2 : IntKind.i64.wrap ((f : Int) + 2) = ((f + 2 : Nat) : Int) := by rw [w64 (by omega) (by omega)]; omega
        rw [wi f (by omega), w2]
        cases r with
        | nil =>
          rw [bif_false (dec_false (by simp at hrl; omega)), one]
          have : twoB [c] = false := by simp [twoB]
          rw [this]
          rfl
        | cons c2 r2 =>
          simp only [List.length_cons] at hrl
          rw [bif_true (dec_true (by omega)), may_ok (by omega) (by omega), cut_nat, show f + 2 - f = 2 by omega, hr, one]
          have sg : sgn22 s f ((f + 2 : Nat) : Int) = some ((⟨2, 2, v0, none⟩ : R22).stj s f f) := by
            unfold sgn22 R22.stj R22.obs R22.tok
            rw [may_ok (by omega) (by omega), cut_nat, show f + 2 - f = 2 by omega]
            rfl
          rw [sg]
          unfold twoB
          generalize (List.take 2 (c :: c2 :: r2) == [60, 62]) = p1
          generalize (List.take 2 (c :: c2 :: r2) == [60, 61]) = p2
          generalize (List.take 2 (c :: c2 :: r2) == [62, 61]) = p3
          cases p1 <;> cases p2 <;> cases p3 <;> rfl

def L22 : List (PVal × Bool) → List Ob → Tree (Ex × Few × List Ob)
  | [(.str s, false), (.int .i64 i, false), (.loc 0 0, false), (.int .i64 z, false)], [⟨38, [.int .i64 x0, .str [], .int .i64 x1, .int .i64 x2, .int .i64 x3, .str [], .int .i64 x4], [false, false, false, false, false, false, false]⟩] =>
    .need (decide (s.length < 4294967281) && decide (0 ≤ i) && decide (i < s.length) && decide (z = 0) && decide (x0 = 0) && decide (x1 = 0) && decide (x2 = 0) && decide (x3 = 0) && decide (x4 = 0))
      (.ret (.ret, [(4, .loc 0 0, false), (5, .int .i64 (i + (scanR (s.drop i.toNat)).n), false)], (scanR (s.drop i.toNat)).obs (s.drop i.toNat) i))
  | _, _ => .fail
noncomputable def sc22 : Code → St → Tree (Ex × St) := fun _ s => told 163 [(0, false), (1, false), (4, false), (5, false)] L22 s

theorem turns22 (ml : Int) (h : (lib ml).Knows (kn prims)) (c : Ctx) (hg : GlobOK (E22 ml sc22) c) : Turns (lib ml).P (E22 ml sc22) c (bodyOf Tryz.f22) := by
  have hE : EnvOK (lib ml).P (E22 ml sc22) := (lib_ok ml).env (G1_ok ml h) _ _
  have hD := draw_ok hE hg (lib_ok ml).mixed
  refine turns_mk (ls := []) (ss := [body22]) (by kernel_rfl) (by kernel_rfl) (fun _ hx => by cases hx) fun x hx => ?_
  cases List.mem_singleton.1 hx
  refine scope_cut hE hg hD (turns_nil (by kernel_rfl) (by kernel_rfl)) keep22 150 163 0 (restOf body22 0) (by kernel_rfl) [(0, false), (1, false), (4, false), (5, false)] L22 (fun s => rfl) fun xs h0 r hx hr => ?_
  unfold L22 at hr
  split at hr
  · rename_i s i z x0 x1 x2 x3 x4
    obtain ⟨hc, rfl⟩ := need_ret_inv hr
    simp only [Bool.and_eq_true, decide_eq_true_eq] at hc
    obtain ⟨⟨⟨⟨⟨⟨⟨⟨hs, h0⟩, h1⟩, rfl⟩, rfl⟩, rfl⟩, rfl⟩, rfl⟩, rfl⟩ := hc
    obtain ⟨f, rfl⟩ : ∃ f : Nat, i = f := ⟨i.toNat, by omega⟩
    obtain ⟨j, hj⟩ := ju22 ml sc22 hs (f := f) (by omega)
    simp only [Int.toNat_natCast]
    refine ⟨_, [(4, false), (5, false)], hj, rfl, rfl, ?_⟩
    rw [show ((f + (scanR (s.drop f)).n : Nat) : Int) = (f : Int) + ((scanR (s.drop f)).n : Int) by omega]
    rfl
  · cases hr

noncomputable def a22 : Ans := fun args h => match args, h with
  | [.str s, .int .i64 i], [] => .need (decide (s.length < 4294967281) && decide (0 ≤ i) && decide (i < s.length))
      (.ret ⟨.tup [.agg ((scanR (s.drop i.toNat)).tok (s.drop i.toNat) i), .int .i64 (i + (scanR (s.drop i.toNat)).n)], [false, false], []⟩)
  | _, _ => .fail

theorem r22 (ml : Int) (s : List UInt8) (i : Int) : (callT (E22 ml sc22) Tryz.f22 [.str s, .int .i64 i] []).run =
    bif decide (s.length < 4294967281) && decide (0 ≤ i) && decide (i < s.length) && decide ((0 : Int) = 0) && decide ((0 : Int) = 0) && decide ((0 : Int) = 0) && decide ((0 : Int) = 0) && decide ((0 : Int) = 0) && decide ((0 : Int) = 0) then
      some ⟨.tup [.agg ((scanR (s.drop i.toNat)).tok (s.drop i.toNat) i), .int .i64 (i + (scanR (s.drop i.toNat)).n)], [false, false], []⟩ else none := by kernel_rfl

theorem a22_ok (ml : Int) (h : (lib ml).Knows (kn prims)) : (lib ml).AnsOK 22 a22 := by
  refine told_ok (lib_ok ml) (G1_ok ml h) (lp := noTurn) (sc := sc22) (fn := Tryz.f22) (by kernel_rfl) (by kernel_rfl) (turns22 ml h) fun args hh r hr => ?_
  unfold a22 at hr
  split at hr
  · rename_i s i
    obtain ⟨hc, rfl⟩ := need_ret_inv hr
    refine (r22 ml s i).trans ?_
    rw [hc]
    rfl
  · cases hr

noncomputable def H1 (ml : Int) : List (FuncId × Ans) := (22, a22) :: G1 ml
theorem H1_ok (ml : Int) (h : (lib ml).Knows (kn prims)) : (lib ml).Knows (kn (H1 ml)) := kn_cons (a22_ok ml h) (G1_ok ml h)
end Go.Proofs.YtgikackicafjbaaGreatDoor
