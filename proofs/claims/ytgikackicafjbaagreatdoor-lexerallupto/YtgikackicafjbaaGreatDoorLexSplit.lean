/- lexer.Split, its rounds. -/
import Derived.Test.YtgikackicafjbaaGreatDoorLexScan4
import Derived.Test.YtgikackicafjbaaGreatDoorPiHeap
set_option linter.unusedVariables false
open Go.Proofs
namespace Go.Proofs.YtgikackicafjbaaGreatDoor
open Go.Pi

noncomputable def E9 (ml : Int) (lp : Code → St → Tree (Ex × St)) : Env := (lib ml).env (kn (H1 ml)) lp noTurn
noncomputable def body9 : Code := loopN Tryz.f9 0
def keep9 : List Nat := [0, 2, 3, 4, 5]
def st9 (s : List UInt8) (sz : Nat) (xs : List PVal) (i : Int) : Few := [(0, .str s, false), (4, .sl sz xs, true), (5, .int .i64 i, false)]
def tokP (s : List UInt8) (i : Int) : PVal := .agg ((scanR (s.drop i.toNat)).tok (s.drop i.toNat) i)
def rnd9 (s : List UInt8) (sz : Nat) (xs : List PVal) (i : Int) : Option (Ex × St) :=
  bif decide (i < s.length) then in22 s i <|
    bif decide (Lib.indexByte [32, 9, 10] ((at22 s i).toNat : Int).toNat.toUInt8 ≥ 0) then some (.nrm, mkSt 37 (st9 s sz xs (IntKind.i64.wrap (i + 1))))
    else bif decide (s.length < 4294967281) && decide (0 ≤ i) && decide (i < s.length) then
      bif (scanR (s.drop i.toNat)).k == 0 then some (.ret, mkSt 37 ([(2, .sl 7 [], true), (3, .int .i64 30, false)] ++ st9 s sz xs i))
      else bif decide ((xs.length + 1) * 72 ≤ 140737488355328) && decide (xs.length + 1 ≤ 9223372036854775807) then
        some (.nrm, mkSt 37 (st9 s 7 (xs ++ [tokP s i]) (i + (scanR (s.drop i.toNat)).n)))
      else none
    else none
  else some (.ext 0, mkSt 37 (st9 s sz xs i))

set_option maxRecDepth 100000 in
theorem q9a (ml : Int) (lp : Code → St → Tree (Ex × St)) (s : List UInt8) (xs : List PVal) (i : Int) : (roundH (E9 ml lp) 150 keep9 body9 (mkSt 37 (st9 s 7 xs i))).run = rnd9 s 7 xs i := by kernel_rfl
end Go.Proofs.YtgikackicafjbaaGreatDoor
set_option linter.unusedVariables false
open Go.Proofs
namespace Go.Proofs.YtgikackicafjbaaGreatDoor
open Go.Pi

/-- A token: its kind, its bytes, its value, where it begins. -/
structure Tk where
  k : Int
  x : List UInt8
  v : V4
  p : Int
  deriving DecidableEq
def Tk.cells (t : Tk) : List PVal := tokL t.k t.x t.v.k t.v.n t.v.m t.v.b t.p
def Tk.pv (t : Tk) : PVal := .agg t.cells
def blank (c : UInt8) : Bool := [32, 9, 10].contains c
def splitT : Nat → List UInt8 → Int → Option (List Tk)
  | 0, _, _ => some []
  | _ + 1, [], _ => some []
  | k + 1, c :: r, p =>
    bif blank c then splitT k r (p + 1)
    else bif (scanR (c :: r)).k == 0 then none
    else (splitT k ((c :: r).drop (scanR (c :: r)).n) (p + (scanR (c :: r)).n)).map (⟨(scanR (c :: r)).k, (c :: r).take (scanR (c :: r)).n, (scanR (c :: r)).v, p⟩ :: ·)

theorem scanR_pos {c : UInt8} {r : List UInt8} (h : (scanR (c :: r)).k ≠ 0) : 1 ≤ (scanR (c :: r)).n := by
  have lit : ∀ (t : List UInt8) (n : Nat), (litR t n).n = n := by intro t n; unfold litR; cases is34 (t.take n) <;> rfl
  revert h
  cases hL : isL c with
  | true => cases hw : wordB ((c :: r).take (1 + wlen r)) <;> simp [scanR, hL, hw]
  | false =>
    cases hD : isD c with
    | true => intro _; simp only [scanR, hL, hD, cond_false, cond_true, lit]; omega
    | false =>
      cases hq : (c == 39) with
      | true =>
        cases hk : qlen r with
        | none => simp [scanR, hL, hD, hq, hk]
        | some q => intro _; simp only [scanR, hL, hD, hq, hk, cond_false, cond_true, lit]; omega
      | false =>
        cases h2 : twoB (c :: r) with
        | true => simp [scanR, hL, hD, hq, h2]
        | false => cases h3 : signs.contains c <;> simp only [scanR, hL, hD, hq, h2, h3, cond_false, cond_true] <;> simp

theorem tok_eq {t : List UInt8} {i : Int} {R : R22} (h : (R.k == 0) = false) : R.tok t i = Tk.cells ⟨R.k, t.take R.n, R.v, i⟩ := by
  unfold R22.tok Tk.cells
  rw [h]
  rfl

variable {ml : Int} {lp : Code → St → Tree (Ex × St)} {s : List UInt8}

theorem ih9 (hs : s.length < 4294967281) : ∀ (k i : Nat) (xs : List PVal), s.length ≤ i + k → xs.length + (s.length - i) ≤ s.length →
    (splitT k (s.drop i) i = none → ∃ (xs' : List PVal) (i' : Int), IH (E9 ml lp) 150 keep9 body9 (mkSt 37 (st9 s 7 xs i)) (.ret, mkSt 37 ([(2, .sl 7 [], true), (3, .int .i64 30, false)] ++ st9 s 7 xs' i'))) ∧
    (∀ l, splitT k (s.drop i) i = some l → ∃ i' : Int, IH (E9 ml lp) 150 keep9 body9 (mkSt 37 (st9 s 7 xs i)) (.ext 0, mkSt 37 (st9 s 7 (xs ++ l.map Tk.pv) i')))
  | k, i, xs, hk, hx => by
    have q := q9a ml lp s xs i
    unfold rnd9 at q
    rcases Nat.lt_or_ge i s.length with hi | hi
    · obtain ⟨c, r, hr⟩ : ∃ c r, s.drop i = c :: r := ⟨_, _, List.drop_eq_getElem_cons hi⟩
      obtain ⟨_, _, h3⟩ := get_at hr
      obtain ⟨k, rfl⟩ : ∃ k', k = k' + 1 := ⟨k - 1, by omega⟩
      rw [bif_true (dec_true (by omega)), in_ok hi, at_nat hr, toU8, idx_nonneg, wi i (by omega)] at q
      rw [hr]
      unfold splitT
      have eb : ([32, 9, 10] : List UInt8).contains c = blank c := rfl
      rw [eb] at q
      cases hb : blank c with
      | true =>
        rw [hb] at q
        have ih := ih9 hs k (i + 1) xs (by omega) (by omega)
        rw [h3] at ih
        simp only [cond_true]
        have e : ((i + 1 : Nat) : Int) = (i : Int) + 1 := by omega
        rw [e] at ih
        refine ⟨fun h => ?_, fun l h => ?_⟩
        · obtain ⟨xs', i', g⟩ := ih.1 h
          refine ⟨xs', i', .next (q.trans ?_) g⟩
          rw [e]; rfl
        · obtain ⟨i', g⟩ := ih.2 l h
          refine ⟨i', .next (q.trans ?_) g⟩
          rw [e]; rfl
      | false =>
        rw [hb] at q
        simp only [cond_false] at q ⊢
        rw [bif_true (by simp; omega)] at q
        simp only [Int.toNat_natCast] at q
        rw [hr] at q
        cases hz : ((scanR (c :: r)).k == 0) with
        | true =>
          rw [hz] at q
          exact ⟨fun _ => ⟨xs, i, .out q rfl⟩, fun l h => by cases h⟩
        | false =>
          rw [hz, cond_false, bif_true (by simp; omega)] at q
          have hp := scanR_pos (c := c) (r := r) (by simpa using hz)
          have ih := ih9 hs k (i + (scanR (c :: r)).n) (xs ++ [tokP s i]) (by omega) (by simp; omega)
          rw [← List.drop_drop, hr] at ih
          have e : ((i + (scanR (c :: r)).n : Nat) : Int) = (i : Int) + ((scanR (c :: r)).n : Int) := by omega
          rw [e] at ih
          have et : tokP s i = Tk.pv ⟨(scanR (c :: r)).k, (c :: r).take (scanR (c :: r)).n, (scanR (c :: r)).v, i⟩ := by
            unfold tokP Tk.pv
            simp only [Int.toNat_natCast]
            rw [hr, tok_eq hz]
          simp only [cond_false]
          refine ⟨fun h => ?_, fun l h => ?_⟩
          · rw [Option.map_eq_none_iff] at h
            obtain ⟨xs', i', g⟩ := ih.1 h
            exact ⟨xs', i', .next q g⟩
          · rw [Option.map_eq_some_iff] at h
            obtain ⟨l', hl', rfl⟩ := h
            obtain ⟨i', g⟩ := ih.2 l' hl'
            refine ⟨i', .next q ?_⟩
            rw [et] at g ⊢
            simpa using g
    · rw [bif_false (dec_false (by omega))] at q
      have he : splitT k (s.drop i) i = some [] := by
        rw [List.drop_eq_nil_of_le hi]
        cases k <;> rfl
      rw [he]
      refine ⟨fun h => (by cases h), fun l h => ⟨i, ?_⟩⟩
      injection h with h
      subst h
      simpa using IH.out q rfl
  termination_by k => k

def toks (s : List UInt8) : List Tk := (splitT s.length s 0).getD []
def bad9 (s : List UInt8) : Bool := decide ((s.length : Int) > 4096) || (splitT s.length s 0).isNone
def err9 (s : List UInt8) : Int := bif decide ((s.length : Int) > 4096) then 6 else 30

def L9 : List (PVal × Bool) → List Ob → Tree (Ex × Few × List Ob)
  | [(.str s, false), (.sl 7 [], true), (.int .i64 i, false)], _ =>
    .need (decide (s.length < 4294967281) && decide (i = 0)) (.ite (splitT s.length s 0).isNone (.ret (.ret, [(2, .sl 7 [], true), (3, .int .i64 30, false)], [])) (.ret (.ext 0, [(4, .sl 7 ((toks s).map Tk.pv), true)], [])))
  | _, _ => .fail
noncomputable def lp9 : Code → St → Tree (Ex × St) := fun _ s => told 37 [(0, false), (4, true), (5, false)] L9 s

theorem turns9 (ml : Int) (h : (lib ml).Knows (kn prims)) (c : Ctx) (hg : GlobOK (E9 ml lp9) c) (hc : c.m = []) : Turns (lib ml).P (E9 ml lp9) c (bodyOf Tryz.f9) := by
  have hE : EnvOK (lib ml).P (E9 ml lp9) := (lib_ok ml).env (H1_ok ml h) _ _
  have hD := draw_ok hE hg (lib_ok ml).mixed
  refine turns_mk (ls := [body9]) (ss := []) (by kernel_rfl) (by kernel_rfl) (fun x hx => ?_) (fun _ hx => by cases hx)
  cases List.mem_singleton.1 hx
  refine loop_bare hE hg hD hc (turns_nil (by kernel_rfl) (by kernel_rfl)) keep9 150 37 [(0, false), (4, true), (5, false)] L9 (fun s => rfl) fun xs h0 r hx hr => ?_
  unfold L9 at hr
  split at hr
  · rename_i s i
    obtain ⟨hc, hr2⟩ := tree_need hr
    clear hr
    simp only [Bool.and_eq_true, decide_eq_true_eq] at hc
    obtain ⟨hs, rfl⟩ := hc
    have ih := ih9 (ml := ml) (lp := lp9) hs s.length 0 [] (by omega) (by simp)
    simp only [List.drop_zero] at ih
    refine ⟨rfl, ?_⟩
    cases hn : splitT s.length s 0 with
    | none =>
      rw [hn] at hr2
      have := run_ret_inv (show (Tree.ret _).run = some r from hr2)
      subst this
      obtain ⟨xs', i', g⟩ := ih.1 hn
      exact ⟨_, [(2, true), (3, false)], g, rfl, rfl, rfl⟩
    | some l =>
      rw [hn] at hr2
      have := run_ret_inv (show (Tree.ret _).run = some r from hr2)
      subst this
      obtain ⟨i', g⟩ := ih.2 l hn
      have e : toks s = l := by unfold toks; rw [hn]; rfl
      rw [e]
      exact ⟨_, [(4, true)], g, rfl, rfl, rfl⟩
  · cases hr

noncomputable def a9 : Ans := fun args h => match args, h with
  | [.str s], [] => .need (decide (s.length < 4294967281)) (.ite (bad9 s) (.ret ⟨.tup [.sl 7 [], .int .i64 (err9 s)], [true, false], []⟩) (.ret ⟨.tup [.sl 7 ((toks s).map Tk.pv), .int .i64 0], [false, false], []⟩))
  | _, _ => .fail

theorem r9 (ml : Int) (s : List UInt8) : (callT (E9 ml lp9) Tryz.f9 [.str s] []).run =
    bif decide ((s.length : Int) > 4096) then some ⟨.tup [.sl 7 [], .int .i64 6], [true, false], []⟩
    else bif decide (s.length < 4294967281) && decide ((0 : Int) = 0) then
      bif (splitT s.length s 0).isNone then some ⟨.tup [.sl 7 [], .int .i64 30], [true, false], []⟩ else some ⟨.tup [.sl 7 ((toks s).map Tk.pv), .int .i64 0], [false, false], []⟩
    else none := by kernel_rfl

theorem a9_ok (ml : Int) (h : (lib ml).Knows (kn prims)) : (lib ml).AnsOK 9 a9 := by
  refine told_ok0 (lib_ok ml) (H1_ok ml h) (lp := lp9) (sc := noTurn) (fn := Tryz.f9) (by kernel_rfl) (by kernel_rfl) (turns9 ml h) fun args hh r hr => ?_
  unfold a9 at hr
  split at hr
  · rename_i s
    obtain ⟨hc, hr⟩ := tree_need hr
    refine ⟨rfl, (r9 ml s).trans ?_⟩
    have hc' : (decide (s.length < 4294967281) && decide ((0 : Int) = 0)) = true := by rw [hc]; rfl
    rw [bif_true hc', ← hr]
    unfold bad9 err9
    cases decide ((s.length : Int) > 4096) <;> cases (splitT s.length s 0).isNone <;> rfl
  · cases hr

noncomputable def I1 (ml : Int) : List (FuncId × Ans) := (9, a9) :: H1 ml
theorem I1_ok (ml : Int) (h : (lib ml).Knows (kn prims)) : (lib ml).Knows (kn (I1 ml)) := kn_cons (a9_ok ml h) (H1_ok ml h)
end Go.Proofs.YtgikackicafjbaaGreatDoor
