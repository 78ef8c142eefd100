/- The library's cuts at one byte. -/
import Derived.Test.YtgikackicafjbaaGreatDoorLexBase
set_option linter.unusedVariables false
open Go.Proofs
namespace Go.Proofs.YtgikackicafjbaaGreatDoor
open Go.Pi

def short (s : List UInt8) : Bool := decide (s.length < 4611686018427387904)
def preB (c : UInt8) (s : List UInt8) : List UInt8 := s.takeWhile (· != c)
def postB (c : UInt8) (s : List UInt8) : List UInt8 := (s.dropWhile (· != c)).drop 1
def isFirst (c : UInt8) : List UInt8 → Bool
  | [] => false
  | b :: _ => b == c
def isLast (c : UInt8) (s : List UInt8) : Bool := isFirst c s.reverse

theorem idx_spec (c : UInt8) : ∀ s : List UInt8, (s.contains c = true → Lib.indexByte s c = ((preB c s).length : Int)) ∧ (s.contains c = false → Lib.indexByte s c = -1)
  | [] => ⟨fun h => by simp at h, fun _ => rfl⟩
  | b :: s => by
    have ih := idx_spec c s
    unfold Lib.indexByte preB
    by_cases hb : b = c
    · subst hb
      simp
    · have e1 : (b == c) = false := by simp [hb]
      have e2 : (b != c) = true := by simp [hb]
      have e3 : (c == b) = false := by simp; exact fun h => hb h.symm
      rw [List.takeWhile_cons, e2, if_pos rfl]
      simp only [e1, Bool.false_eq_true, if_false, List.contains_cons, e3, Bool.false_or, List.length_cons]
      refine ⟨fun h => ?_, fun h => ?_⟩
      · rw [ih.1 h]
        unfold preB
        have : ((((List.takeWhile (fun x => x != c) s).length : Nat) : Int) == -1) = false := by simp
        rw [this]
        simp
      · rw [ih.2 h]; simp

theorem pre_take (c : UInt8) (s : List UInt8) : s.take (preB c s).length = preB c s := by
  unfold preB
  induction s with
  | nil => rfl
  | cons b s ih => simp only [List.takeWhile_cons]; split <;> simp [ih]

theorem post_drop (c : UInt8) (s : List UInt8) : s.drop ((preB c s).length + 1) = postB c s := by
  unfold preB postB
  induction s with
  | nil => rfl
  | cons b s ih => simp only [List.takeWhile_cons, List.dropWhile_cons]; split <;> simp [ih]

theorem pre_le (c : UInt8) (s : List UInt8) : (preB c s).length ≤ s.length := List.Sublist.length_le (List.takeWhile_sublist _)
theorem pre_lt (c : UInt8) (s : List UInt8) (h : s.contains c = true) : (preB c s).length < s.length := by
  unfold preB
  induction s with
  | nil => simp at h
  | cons b s ih =>
    simp only [List.takeWhile_cons]
    split
    · rename_i hb
      simp only [List.contains_cons, Bool.or_eq_true, beq_iff_eq] at h
      rcases h with h | h
      · simp [h] at hb
      · have := ih h; simp only [List.length_cons]; omega
    · simp

theorem pre_all (c : UInt8) (s : List UInt8) (h : s.contains c = false) : preB c s = s := by
  unfold preB
  induction s with
  | nil => rfl
  | cons b s ih =>
    simp only [List.contains_cons, Bool.or_eq_false_iff] at h
    have : (b != c) = true := by
      have := h.1
      simp only [beq_eq_false_iff_ne, ne_eq] at this
      simp only [bne_iff_ne, ne_eq]
      exact fun e => this e.symm
    rw [List.takeWhile_cons, this, if_pos rfl, ih h.2]

noncomputable def a33 : Ans := fun args h => match args, h with
  | [.str s, .str [c]], [] => .need (short s) (.ret ⟨.bool (s.contains c), [false], []⟩)
  | _, _ => .fail
noncomputable def a97 : Ans := fun args h => match args, h with
  | [.str s, .str [c]], [] => .need (short s) (.ret ⟨.tup [.str (preB c s), .str (postB c s), .bool (s.contains c)], [false, false, false], []⟩)
  | _, _ => .fail
noncomputable def a99 : Ans := fun args h => match args, h with
  | [.str s, .str [c]], [] => .need (short s) (.ret ⟨.tup [.str (bif isFirst c s then s.drop 1 else s), .bool (isFirst c s)], [false, false], []⟩)
  | _, _ => .fail
noncomputable def a70 : Ans := fun args h => match args, h with
  | [.str s, .str [c]], [] => .need (short s) (.ret ⟨.str (bif isLast c s then s.dropLast else s), [false], []⟩)
  | _, _ => .fail

noncomputable def Bs (ml : Int) : Env := (lib ml).envU (kn (B2 ml)) 14 2

theorem r33 (ml : Int) (s : List UInt8) (c : UInt8) : (callT (Bs ml) Tryz.f33 [.str s, .str [c]] []).run =
    bif [c] == s then some ⟨.bool true, [false], []⟩ else some ⟨.bool (decide (Lib.indexByte s (c.toNat : Int).toNat.toUInt8 ≥ 0)), [false], []⟩ := by kernel_rfl

theorem r99 (ml : Int) (s : List UInt8) (c : UInt8) : (callT (Bs ml) Tryz.f99 [.str s, .str [c]] []).run =
    bif decide ((s.length : Int) ≥ ((1 : Nat) : Int)) then
      bif decide (((1 : Nat) : Int) ≤ s.length) then
        bif !((s.take 1).drop 0 == [c]) then some ⟨.tup [.str s, .bool false], [false, false], []⟩
        else bif decide ((s.length : Int) ≤ s.length) then bif decide (((1 : Nat) : Int) ≤ s.length) then some ⟨.tup [.str (List.drop 1 (List.take (s.length : Int).toNat s)), .bool true], [false, false], []⟩ else none else none
      else none
    else some ⟨.tup [.str s, .bool false], [false, false], []⟩ := by kernel_rfl

theorem r70 (ml : Int) (s : List UInt8) (c : UInt8) : (callT (Bs ml) Tryz.f70 [.str s, .str [c]] []).run =
    bif decide ((s.length : Int) ≥ ((1 : Nat) : Int)) then
      bif decide ((s.length : Int) ≤ s.length) then
        bif decide (0 ≤ IntKind.i64.wrap ((s.length : Int) - ((1 : Nat) : Int))) && decide (IntKind.i64.wrap ((s.length : Int) - ((1 : Nat) : Int)) ≤ s.length) then
          bif List.drop (IntKind.i64.wrap ((s.length : Int) - ((1 : Nat) : Int))).toNat (List.take (s.length : Int).toNat s) == [c] then
            bif decide (0 ≤ IntKind.i64.wrap ((s.length : Int) - ((1 : Nat) : Int))) && decide (IntKind.i64.wrap ((s.length : Int) - ((1 : Nat) : Int)) ≤ s.length) then
              bif decide (0 ≤ IntKind.i64.wrap ((s.length : Int) - ((1 : Nat) : Int))) then
                some ⟨.str (List.drop 0 (List.take (IntKind.i64.wrap ((s.length : Int) - ((1 : Nat) : Int))).toNat s)), [false], []⟩
              else none
            else none
          else some ⟨.str s, [false], []⟩
        else none
      else none
    else some ⟨.str s, [false], []⟩ := by kernel_rfl
theorem r97 (ml : Int) (s : List UInt8) (c : UInt8) : (callT (Bs ml) Tryz.f97 [.str s, .str [c]] []).run =
    bif [c] == s then
      bif decide ((s.length : Int) ≤ s.length) then
        bif decide (IntKind.i64.wrap (0 + ((1 : Nat) : Int)) ≤ s.length) then
          some ⟨.tup [.str [], .str (List.drop 1 (List.take (s.length : Int).toNat s)), .bool true], [false, false, false], []⟩
        else none
      else none
    else
      bif decide (Lib.indexByte s (c.toNat : Int).toNat.toUInt8 ≥ 0) then
        bif decide (0 ≤ Lib.indexByte s (c.toNat : Int).toNat.toUInt8) && decide (Lib.indexByte s (c.toNat : Int).toNat.toUInt8 ≤ s.length) then
          bif decide (0 ≤ Lib.indexByte s (c.toNat : Int).toNat.toUInt8) then
            bif decide ((s.length : Int) ≤ s.length) then
              bif decide (0 ≤ IntKind.i64.wrap (Lib.indexByte s (c.toNat : Int).toNat.toUInt8 + ((1 : Nat) : Int))) && decide (IntKind.i64.wrap (Lib.indexByte s (c.toNat : Int).toNat.toUInt8 + ((1 : Nat) : Int)) ≤ s.length) then
                some ⟨.tup [.str (List.drop 0 (List.take (Lib.indexByte s (c.toNat : Int).toNat.toUInt8).toNat s)), .str (List.drop (IntKind.i64.wrap (Lib.indexByte s (c.toNat : Int).toNat.toUInt8 + ((1 : Nat) : Int))).toNat (List.take (s.length : Int).toNat s)), .bool true], [false, false, false], []⟩
              else none
            else none
          else none
        else none
      else some ⟨.tup [.str s, .str [], .bool false], [false, false, false], []⟩ := by kernel_rfl

theorem short_lt {s : List UInt8} (h : short s = true) : s.length < 4611686018427387904 := of_decide_eq_true h

theorem inlB2 (ml : Int) (h : (lib ml).Knows (kn prims)) {f : FuncId} {fn : Func} (hf : (lib ml).P.funcs[f]? = some fn) (hn : (fn.name == "runtime.NumGoroutine") = false) {args : List PVal} {hh : List Ob} {r : CR} (hr : (callT (Bs ml) fn args hh).run = some r) : CallOK (lib ml).P (lib ml).glob f args hh r :=
  inl_ok (lib_ok ml) (B2_ok ml h) 14 2 hf hn args hh r hr

theorem a33_ok (ml : Int) (h : (lib ml).Knows (kn prims)) : (lib ml).AnsOK 33 a33 := by
  intro args hh r hr
  unfold a33 at hr
  split at hr
  · rename_i s c
    obtain ⟨hs, rfl⟩ := need_ret_inv hr
    refine inlB2 ml h (fn := Tryz.f33) (by kernel_rfl) (by kernel_rfl) ?_
    rw [r33, toU8]
    cases hb : ([c] == s) with
    | true =>
      have : s = [c] := (beq_iff_eq.1 hb).symm
      subst this
      simp
    | false =>
      cases hc : s.contains c with
      | true => rw [(idx_spec c s).1 hc]; simp
      | false => rw [(idx_spec c s).2 hc]; rfl
  · cases hr

theorem a99_ok (ml : Int) (h : (lib ml).Knows (kn prims)) : (lib ml).AnsOK 99 a99 := by
  intro args hh r hr
  unfold a99 at hr
  split at hr
  · rename_i s c
    obtain ⟨hs, rfl⟩ := need_ret_inv hr
    refine inlB2 ml h (fn := Tryz.f99) (by kernel_rfl) (by kernel_rfl) ?_
    rw [r99]
    cases s with
    | nil => rfl
    | cons b s =>
      rw [bif_true (dec_true (by simp; omega)), bif_true (dec_true (by simp; omega))]
      simp only [isFirst, List.take_succ_cons, List.take_zero, List.drop_zero]
      by_cases hb : b = c
      · subst hb
        have : (1 : Int) ≤ (s.length : Int) + 1 := by omega
        simp [this]
      · have hb' : (b == c) = false := by simp [hb]
        simp [hb']
  · cases hr

theorem a70_ok (ml : Int) (h : (lib ml).Knows (kn prims)) : (lib ml).AnsOK 70 a70 := by
  intro args hh r hr
  unfold a70 at hr
  split at hr
  · rename_i s c
    obtain ⟨hs, rfl⟩ := need_ret_inv hr
    have hs := short_lt hs
    refine inlB2 ml h (fn := Tryz.f70) (by kernel_rfl) (by kernel_rfl) ?_
    rw [r70]
    rcases List.eq_nil_or_concat s with rfl | ⟨l, b, rfl⟩
    · rfl
    · rw [List.concat_eq_append] at hs ⊢
      have e : IntKind.i64.wrap (((l ++ [b]).length : Int) - ((1 : Nat) : Int)) = (l.length : Int) := by
        rw [w64 (by simp) (by simp at hs ⊢; omega)]; simp
      rw [e, bif_true (dec_true (by simp; omega)), bif_true (dec_true (by omega))]
      have e2 : (decide (0 ≤ (l.length : Int)) && decide ((l.length : Int) ≤ ((l ++ [b]).length : Int))) = true := by simp; omega
      rw [bif_true e2, bif_true e2]
      have e3 : isLast c (l ++ [b]) = (b == c) := by simp [isLast, isFirst]
      simp only [e3]
      have e4 : List.drop (l.length : Int).toNat (List.take ((l ++ [b]).length : Int).toNat (l ++ [b])) = [b] := by
        simp only [Int.toNat_natCast, List.take_length]
        simp
      rw [e4]
      by_cases hb : b = c
      · subst hb
        simp
      · have hb' : (b == c) = false := by simp [hb]
        simp [hb']
  · cases hr

theorem a97_ok (ml : Int) (h : (lib ml).Knows (kn prims)) : (lib ml).AnsOK 97 a97 := by
  intro args hh r hr
  unfold a97 at hr
  split at hr
  · rename_i s c
    obtain ⟨hs, rfl⟩ := need_ret_inv hr
    have hs := short_lt hs
    refine inlB2 ml h (fn := Tryz.f97) (by kernel_rfl) (by kernel_rfl) ?_
    rw [r97, toU8]
    cases hb : ([c] == s) with
    | true =>
      have : s = [c] := (beq_iff_eq.1 hb).symm
      subst this
      simp [preB, postB, w64]
    | false =>
      rw [bif_false rfl]
      cases hc : s.contains c with
      | true =>
        have hl := pre_lt c s hc
        rw [(idx_spec c s).1 hc, w64 (by omega) (by omega)]
        rw [bif_true (dec_true (by omega)), bif_true (by simp; omega), bif_true (dec_true (by omega)), bif_true (dec_true (by omega)), bif_true (by simp; omega)]
        have e1 : (((preB c s).length : Int) + ((1 : Nat) : Int)).toNat = (preB c s).length + 1 := by omega
        rw [e1]
        simp only [Int.toNat_natCast, List.take_length, List.drop_zero, pre_take, post_drop]
      | false =>
        rw [(idx_spec c s).2 hc, bif_false (dec_false (by omega))]
        have e1 : preB c s = s := by
          exact pre_all c s hc
        have e2 : postB c s = [] := by
          rw [← post_drop, e1]; simp
        rw [e1, e2]
  · cases hr

/-- What is known from here on. -/
noncomputable def C1 (ml : Int) : List (FuncId × Ans) := (33, a33) :: (97, a97) :: (99, a99) :: (70, a70) :: B2 ml
theorem C1_ok (ml : Int) (h : (lib ml).Knows (kn prims)) : (lib ml).Knows (kn (C1 ml)) :=
  kn_cons (a33_ok ml h) (kn_cons (a97_ok ml h) (kn_cons (a99_ok ml h) (kn_cons (a70_ok ml h) (B2_ok ml h))))

end Go.Proofs.YtgikackicafjbaaGreatDoor
