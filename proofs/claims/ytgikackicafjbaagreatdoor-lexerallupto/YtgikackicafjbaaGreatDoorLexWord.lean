/- lexer's letter, digit, Word. -/
import Derived.Test.YtgikackicafjbaaGreatDoorLexParse
set_option linter.unusedVariables false
open Go.Proofs
namespace Go.Proofs.YtgikackicafjbaaGreatDoor
open Go.Pi

def letF (n : Int) : Bool := decide (IntKind.u8.wrap (n - 97) < 26) || n == 95
def digF (n : Int) : Bool := decide (IntKind.u8.wrap (n - 48) < 10)
def isL (c : UInt8) : Bool := letF c.toNat
def isW (c : UInt8) : Bool := isL c || isD c
def wset : List UInt8 := [97, 98, 99, 100, 101, 102, 103, 104, 105, 106, 107, 108, 109, 110, 111, 112, 113, 114, 115, 116, 117, 118, 119, 120, 121, 122, 48, 49, 50, 51, 52, 53, 54, 55, 56, 57, 95]
def wordB (s : List UInt8) : Bool := isFirstL s && decide (s.length ≤ 32) && s.all isW
  where isFirstL : List UInt8 → Bool | [] => false | c :: _ => isL c

theorem digF_isD (c : UInt8) : digF c.toNat = isD c := by
  unfold digF isD dg
  rw [Bool.eq_iff_iff]
  simp only [decide_eq_true_eq, Bool.not_eq_true', decide_eq_false_iff_not]
  omega

set_option maxRecDepth 100000 in
theorem wset_all : ∀ n : Fin 256, wset.contains (UInt8.ofNat n.val) = isW (UInt8.ofNat n.val) := by decide +kernel
theorem wset_isW (c : UInt8) : wset.contains c = isW c := by
  have := wset_all ⟨c.toNat, c.toNat_lt⟩
  simpa using this

noncomputable def a26 : Ans := fun args h => match args, h with
  | [.int .u8 n], [] => .ret ⟨.bool (letF n), [false], []⟩
  | _, _ => .fail
noncomputable def a31 : Ans := fun args h => match args, h with
  | [.int .u8 n], [] => .ret ⟨.bool (digF n), [false], []⟩
  | _, _ => .fail
noncomputable def a19 : Ans := fun args h => match args, h with
  | [.str s], [] => .need (short s) (.ret ⟨.bool (wordB s), [false], []⟩)
  | _, _ => .fail

theorem r26 (ml : Int) (n : Int) : (callT (Bs ml) Tryz.f26 [.int .u8 n] []).run = bif decide (IntKind.wrap .u8 (n - 97) < 26) then cb true else cb (n == 95) := by kernel_rfl
theorem r31 (ml : Int) (n : Int) : (callT (Bs ml) Tryz.f31 [.int .u8 n] []).run = cb (digF n) := by kernel_rfl
def last19 (s : List UInt8) : Option CR :=
  bif decide (s.length ≤ 9223372036854775807) && wset.all (· < 128) && decide (wset.length ≤ 1000) then cb (trimB wset s == []) else none
theorem r19 (ml : Int) (s : List UInt8) : (callT (Bs ml) Tryz.f19 [.str s] []).run =
  bif !(s == []) then bif decide ((s.length : Int) ≤ 32) then
    bif decide ((0 : Int) ≤ 0) && decide ((0 : Int) < s.length) then
      bif decide (IntKind.wrap .u8 (((s.getD 0 0).toNat : Int) - 97) < 26) then last19 s else bif ((s.getD 0 0).toNat : Int) == 95 then last19 s else cb false
    else none
  else cb false else cb false := by kernel_rfl

theorem drop_nil_iff (p : UInt8 → Bool) (s : List UInt8) : s.dropWhile p = [] ↔ s.all p = true := by
  induction s with
  | nil => simp
  | cons c s ih => simp only [List.dropWhile_cons, List.all_cons, Bool.and_eq_true]; split <;> simp_all

theorem trim_nil (s : List UInt8) : (trimB wset s == []) = s.all isW := by
  rw [Bool.eq_iff_iff, beq_iff_eq]
  have hw : (wset.contains : UInt8 → Bool) = isW := funext wset_isW
  unfold trimB trimL
  rw [hw]
  rw [drop_nil_iff, List.all_reverse]
  constructor
  · intro h
    -- what is left begins with no such byte
    have hd : ∀ (l : List UInt8), (l.dropWhile isW).all isW = true → l.dropWhile isW = [] := by
      intro l
      induction l with
      | nil => intro _; rfl
      | cons c l ih =>
        intro h
        simp only [List.dropWhile_cons] at h ⊢
        split
        · rename_i hc; rw [if_pos hc] at h; exact ih h
        · rename_i hc; rw [if_neg hc] at h; simp [hc] at h
    have := hd s.reverse h
    rw [drop_nil_iff, List.all_reverse] at this
    exact this
  · intro h
    have : s.reverse.dropWhile isW = [] := by rw [drop_nil_iff, List.all_reverse]; exact h
    rw [this]; rfl

theorem a26_ok (ml : Int) (h : (lib ml).Knows (kn prims)) : (lib ml).AnsOK 26 a26 := by
  intro args hh r hr
  unfold a26 at hr
  split at hr
  · rename_i n
    have := run_ret_inv hr
    subst this
    refine inlB2 ml h (fn := Tryz.f26) (by kernel_rfl) (by kernel_rfl) ?_
    rw [r26]
    unfold letF
    cases decide (IntKind.wrap .u8 (n - 97) < 26) <;> rfl
  · cases hr
theorem a31_ok (ml : Int) (h : (lib ml).Knows (kn prims)) : (lib ml).AnsOK 31 a31 := by
  intro args hh r hr
  unfold a31 at hr
  split at hr
  · rename_i n
    have := run_ret_inv hr
    subst this
    exact inlB2 ml h (fn := Tryz.f31) (by kernel_rfl) (by kernel_rfl) (r31 ml n)
  · cases hr
theorem a19_ok (ml : Int) (h : (lib ml).Knows (kn prims)) : (lib ml).AnsOK 19 a19 := by
  intro args hh r hr
  unfold a19 at hr
  split at hr
  · rename_i s
    obtain ⟨hc, rfl⟩ := need_ret_inv hr
    have hc := short_lt hc
    refine inlB2 ml h (fn := Tryz.f19) (by kernel_rfl) (by kernel_rfl) ?_
    rw [r19]
    unfold last19
    have e : (decide (s.length ≤ 9223372036854775807) && wset.all (· < 128) && decide (wset.length ≤ 1000)) = true := by
      rw [dec_true (by omega)]; decide
    rw [bif_true e, trim_nil]
    cases s with
    | nil => rfl
    | cons c s =>
      have e1 : (!((c :: s) == [])) = true := by simp
      have e2 : (decide ((0 : Int) ≤ 0) && decide ((0 : Int) < (c :: s).length)) = true := by simp
      rw [bif_true e1, bif_true e2]
      unfold wordB wordB.isFirstL isL letF
      simp only [List.getD_cons_zero]
      have e3 : decide (((c :: s).length : Int) ≤ 32) = decide ((c :: s).length ≤ 32) := by rw [Bool.eq_iff_iff]; simp only [decide_eq_true_eq]; omega
      rw [e3]
      generalize decide ((c :: s).length ≤ 32) = p1
      generalize decide (IntKind.wrap .u8 ((c.toNat : Int) - 97) < 26) = p2
      generalize ((c.toNat : Int) == 95) = p3
      generalize (c :: s).all isW = p4
      cases p1 <;> cases p2 <;> cases p3 <;> cases p4 <;> rfl
  · cases hr

noncomputable def G1 (ml : Int) : List (FuncId × Ans) := (26, a26) :: (31, a31) :: (19, a19) :: F1 ml
theorem G1_ok (ml : Int) (h : (lib ml).Knows (kn prims)) : (lib ml).Knows (kn (G1 ml)) := kn_cons (a26_ok ml h) (kn_cons (a31_ok ml h) (kn_cons (a19_ok ml h) (F1_ok ml h)))
end Go.Proofs.YtgikackicafjbaaGreatDoor
