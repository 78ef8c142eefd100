/- LexerAll answers true. -/
import Derived.Test.YtgikackicafjbaaGreatDoorLexAll2
set_option linter.unusedVariables false
open Go.Proofs
namespace Go.Proofs.YtgikackicafjbaaGreatDoor
open Go.Pi

theorem scanR_le {c : UInt8} {r : List UInt8} (h : (scanR (c :: r)).k ≠ 0) : (scanR (c :: r)).n ≤ (c :: r).length := by
  have lit : ∀ (t : List UInt8) (n : Nat), (litR t n).n = n := by intro t n; unfold litR; cases is34 (t.take n) <;> rfl
  revert h
  rw [List.length_cons]
  cases hL : isL c with
  | true =>
    have hw := wlen_le r
    cases hwb : wordB ((c :: r).take (1 + wlen r)) <;> simp only [scanR, hL, hwb, cond_true, cond_false] <;> intro _ <;> omega
  | false =>
    cases hD : isD c with
    | true =>
      have := nlen_le false r
      intro _; simp only [scanR, hL, hD, cond_false, cond_true, lit]; omega
    | false =>
      cases hq : (c == 39) with
      | true =>
        cases hk : qlen r with
        | none => simp [scanR, hL, hD, hq, hk]
        | some q =>
          have := qlen_le r.length r q (Nat.le_refl _) hk
          intro _; simp only [scanR, hL, hD, hq, hk, cond_false, cond_true, lit]; omega
      | false =>
        cases h2 : twoB (c :: r) with
        | true =>
          simp only [scanR, hL, hD, hq, h2, cond_false, cond_true]
          intro _
          cases r with
          | nil => simp [twoB] at h2
          | cons c2 r2 => simp
        | false => cases h3 : signs.contains c <;> simp only [scanR, hL, hD, hq, h2, h3, cond_false, cond_true] <;> intro _ <;> omega

variable {ml : Int} {s : List UInt8}

theorem blk_snoc {a i : Nat} {c : UInt8} {r : List UInt8} (h : s.drop i = c :: r) (ha : a ≤ i) (hb : blk s a i = true) (hc : blank c = true) : blk s a ((i + 1 : Nat) : Int) = true := by
  unfold blk at hb ⊢
  simp only [Int.toNat_natCast] at hb ⊢
  have hs := cut_snoc (s := s) (f := a) ha h
  rw [cut_nat, cut_nat] at hs
  rw [hs, List.all_append, hb]
  simp [hc]

theorem decP_tk (t : Tk) : decP t.pv = t.p := rfl
theorem decX_tk (t : Tk) : decX t.pv = t.x := rfl

theorem chk_toks : ∀ (k i a : Nat) (l : List Tk), s.length ≤ i + k → i ≤ s.length → a ≤ i → blk s a i = true → splitT k (s.drop i) i = some l → chk6 s (l.map Tk.pv) a = true
  | k, i, a, l, hk, hi, ha, hb, h => by
    rcases Nat.lt_or_ge i s.length with hlt | hge
    · obtain ⟨c, r, hr⟩ : ∃ c r, s.drop i = c :: r := ⟨_, _, List.drop_eq_getElem_cons hlt⟩
      obtain ⟨_, _, h3⟩ := get_at hr
      obtain ⟨k, rfl⟩ : ∃ k', k = k' + 1 := ⟨k - 1, by omega⟩
      rw [hr] at h
      unfold splitT at h
      cases hbl : blank c with
      | true =>
        rw [hbl, cond_true, ← h3] at h
        have e : (i : Int) + 1 = ((i + 1 : Nat) : Int) := by omega
        rw [e] at h
        exact chk_toks k (i + 1) a l (by omega) (by omega) (by omega) (blk_snoc hr ha hb hbl) h
      | false =>
        rw [hbl, cond_false] at h
        cases hz : ((scanR (c :: r)).k == 0) with
        | true => rw [hz] at h; cases h
        | false =>
          rw [hz, cond_false, Option.map_eq_some_iff] at h
          obtain ⟨l', hl', rfl⟩ := h
          have hp := scanR_pos (c := c) (r := r) (by simpa using hz)
          have hn := scanR_le (c := c) (r := r) (by simpa using hz)
          have hrl : (c :: r).length = s.length - i := by rw [← hr]; simp
          rw [hrl] at hn
          have e : (i : Int) + ((scanR (c :: r)).n : Int) = ((i + (scanR (c :: r)).n : Nat) : Int) := by omega
          rw [e, ← hr, List.drop_drop, hr] at hl'
          have ih := chk_toks k (i + (scanR (c :: r)).n) (i + (scanR (c :: r)).n) l' (by omega) (by omega) (Nat.le_refl _) (blk_nil _) hl'
          rw [List.map_cons]
          unfold chk6
          rw [decP_tk, decX_tk]
          simp only
          have hx : ((c :: r).take (scanR (c :: r)).n).length = (scanR (c :: r)).n := by rw [List.length_take, hrl]; omega
          have e1 : okE s a i = true := by unfold okE; simp; omega
          have e2 : okT s i ((c :: r).take (scanR (c :: r)).n) = true := by
            unfold okT
            rw [hx]
            simp only [Int.toNat_natCast]
            rw [hr]
            simp
            omega
          rw [e1, hb, e2, hx, e, ih]
          rfl
    · have hi2 : i = s.length := by omega
      subst hi2
      rw [List.drop_eq_nil_of_le (Nat.le_refl _)] at h
      have : l = [] := by cases k <;> (injection h with h; exact h.symm)
      subst this
      have e1 : okE s a s.length = true := by unfold okE; simp; omega
      show (okE s a s.length && blk s a s.length) = true
      rw [e1, hb]
      rfl
  termination_by k => k

theorem fit_toks (ml : Int) (l : List Tk) : fitAll (TY (lib ml).P) 38 (l.map Tk.pv) = true := by
  have h : TY (lib ml).P 38 = some ⟨.struct [(0, 3), (1, 9), (2, 36), (6, 3)], 7, 72, [.int .i64 0, .str [], .int .i64 0, .int .i64 0, .int .i64 0, .str [], .int .i64 0]⟩ := by kernel_rfl
  unfold fitAll
  rw [h]
  simp only [List.all_map, List.all_eq_true]
  intro t _
  rfl

theorem toks_len : ∀ (k : Nat) (t : List UInt8) (p : Int) (l : List Tk), splitT k t p = some l → l.length ≤ k
  | 0, t, p, l, h => by injection h with h; subst h; simp
  | k + 1, [], p, l, h => by injection h with h; subst h; simp
  | k + 1, c :: r, p, l, h => by
    unfold splitT at h
    cases hb : blank c with
    | true => rw [hb] at h; have := toks_len k r _ l h; omega
    | false =>
      rw [hb, cond_false] at h
      cases hz : ((scanR (c :: r)).k == 0) with
      | true => rw [hz] at h; cases h
      | false =>
        rw [hz, cond_false, Option.map_eq_some_iff] at h
        obtain ⟨l', hl', rfl⟩ := h
        have := toks_len k _ _ l' hl'
        simp; omega

noncomputable def loop6 (ml : Int) (s : List UInt8) (xs : List PVal) : Option CR :=
  bif decide ((0 : Int) = 0) && decide ((0 : Int) = 0) && decide (s.length < 4294967281) && decide (xs.length < 1099511627776) && fitAll (TY (lib ml).P) 38 xs then bif chk6 s xs 0 then cb true else cb false else none
set_option maxRecDepth 100000 in
theorem r6 (ml : Int) (s : List UInt8) : (callT (E6 ml (lp6 ml)) Tryz.f6 [.str s] []).run =
  bif decide (s.length < 4294967281) then
    bif bad9 s then bif err9 s != 0 then cb true else loop6 ml s [] else loop6 ml s ((toks s).map Tk.pv)
  else none := by kernel_rfl

noncomputable def a6 : Ans := fun args h => match args, h with
  | [.str s], [] => .need (decide (s.length < 4294967281)) (.ret ⟨.bool true, [false], []⟩)
  | _, _ => .fail

theorem a6_ok (ml : Int) (h : (lib ml).Knows (kn prims)) : (lib ml).AnsOK 6 a6 := by
  refine told_ok0 (lib_ok ml) (M1_ok ml h) (lp := lp6 ml) (sc := noTurn) (fn := Tryz.f6) (by kernel_rfl) (by kernel_rfl) (turns6 ml h) fun args hh r hr => ?_
  unfold a6 at hr
  split at hr
  · rename_i s
    obtain ⟨hc, rfl⟩ := need_ret_inv hr
    refine ⟨rfl, (r6 ml s).trans ?_⟩
    rw [hc, cond_true]
    cases hb : bad9 s with
    | true =>
      have : (err9 s != 0) = true := by unfold err9; cases decide ((s.length : Int) > 4096) <;> rfl
      rw [this]
      rfl
    | false =>
      rw [cond_false]
      unfold bad9 at hb
      rw [Bool.or_eq_false_iff] at hb
      obtain ⟨l, hl⟩ : ∃ l, splitT s.length s 0 = some l := by
        cases hn : splitT s.length s 0 with
        | none => rw [hn] at hb; cases hb.2
        | some l => exact ⟨l, rfl⟩
      have ht : toks s = l := by unfold toks; rw [hl]; rfl
      have hlen := toks_len s.length s 0 l hl
      have hk := chk_toks (s := s) s.length 0 0 l (by omega) (by omega) (by omega) (blk_nil 0) (by simpa using hl)
      have hs : s.length < 4294967281 := of_decide_eq_true hc
      unfold loop6
      rw [ht, fit_toks, hc, bif_true (b := decide ((0 : Int) = 0) && decide ((0 : Int) = 0) && true && decide ((l.map Tk.pv).length < 1099511627776) && true) (by simp; omega)]
      rw [show chk6 s (l.map Tk.pv) 0 = true from hk]
      rfl
  · cases hr

/-- THE LAW, AS THE PROGRAM ANSWERS IT. -/
theorem law6 (ml : Int) (h : (lib ml).Knows (kn prims)) (s : List UInt8) (hs : s.length < 4294967281) : CallOK (lib ml).P (lib ml).glob 6 [.str s] [] ⟨.bool true, [false], []⟩ :=
  a6_ok ml h [.str s] [] _ (by
    simp only [a6]
    rw [dec_true hs]; rfl)
end Go.Proofs.YtgikackicafjbaaGreatDoor
