/- decimal.Parse: what it answers. -/
import Derived.Test.YtgikackicafjbaaGreatDoorLexDec
set_option linter.unusedVariables false
open Go.Proofs
namespace Go.Proofs.YtgikackicafjbaaGreatDoor
open Go.Pi

/-- How it ends, the units, the scale; what the 128 bits hold. -/
structure R69 where
  e : Int
  u : Int
  s : Int
  v : Int
  g : Bool

def fin69 (neg : Bool) (sc : Int) : List UInt8 → Int → Bool → R69
  | [], v, o => bif (bif neg then v == 0 else false) then ⟨21, 0, 0, v, false⟩ else bif o then ⟨32, 0, 0, v, false⟩
    else ⟨backE (v / 18446744073709551616) (v % 18446744073709551616) neg, backU (v / 18446744073709551616) (v % 18446744073709551616) neg, backS (v / 18446744073709551616) (v % 18446744073709551616) neg sc, v, neg⟩
  | c :: l, v, o => bif isD c then (bif o then fin69 neg sc l v o else fin69 neg sc l (v * 10 + dg c) (decide (v * 10 + dg c ≥ 18446744073709551616))) else ⟨21, 0, 0, v, false⟩

def early69 (s : List UInt8) : Bool :=
  (whole69 s == []) || (point69 s && part69 s == []) || decide (((part69 s).length : Int) > 6) || (decide (((whole69 s).length : Int) > 1) && ((((whole69 s).getD 0 0).toNat : Int) == 48))
def run69 (s : List UInt8) : R69 := bif early69 s then ⟨21, 0, 0, 0, false⟩ else fin69 (isFirst 45 s) (part69 s).length (whole69 s ++ part69 s) 0 false

def L69 : List (PVal × Bool) → List Ob → Tree (Ex × Few × List Ob)
  | [(.str s, false), (.loc 0 0, false), (.int .i64 z, false)], [⟨105, [.int .i64 x, .int .i64 y], [false, false]⟩] =>
    .need (short s && decide (x = 0) && decide (y = 0) && decide (z = 0)) (.ret (.ret, [(2, .loc 0 0, false), (3, .int .i64 (run69 s).e, false)], ob105 (run69 s).u (run69 s).s :: (bif early69 s then [] else [ob137 ((run69 s).v / 18446744073709551616) ((run69 s).v % 18446744073709551616) (run69 s).g])))
  | _, _ => .fail

theorem dg_bd (c : UInt8) : 0 ≤ dg c ∧ dg c < 256 := by unfold dg; rw [IntKind.wrap_u8]; omega
theorem dg_le {c : UInt8} (h : isD c = true) : dg c ≤ 9 := by unfold isD at h; simp at h; omega

theorem step69 {v : Int} (h0 : 0 ≤ v) (h1 : v < 18446744073709551616) (c : UInt8) (h9 : dg c ≤ 9) :
    ((v / 18446744073709551616 * 18446744073709551616 + v % 18446744073709551616) * 10 / 18446744073709551616 * 18446744073709551616 + (v / 18446744073709551616 * 18446744073709551616 + v % 18446744073709551616) * 10 % 18446744073709551616 + (0 * 18446744073709551616 + IntKind.u64.wrap (dg c))) = v * 10 + dg c := by
  have := dg_bd c
  rw [wu64 (by omega) (by omega)]
  omega

theorem js69 (ml : Int) (sc' : Code → St → Tree (Ex × St)) (neg : Bool) (sc : Int) (s : List UInt8) (hs : s.length < 9223372036854775807) : ∀ (l : List UInt8) (i : Nat) (v : Int) (o : Bool), s.drop i = l → l ≠ [] → 0 ≤ v → v < 340282366920938463463374607431768211456 → (o = false → v < 18446744073709551616) →
    ∃ (i' : Int) (o' : Bool), JS (E69 ml sc') 150 keep69 body69 (restOf body69 0) (mkSt 96 (st69 0 neg sc o i s) [ob105 0 0, ob137 (v / 18446744073709551616) (v % 18446744073709551616) false])
      (.ret, mkSt 96 (st69 (fin69 neg sc l v o).e neg sc o' i' s) [ob105 (fin69 neg sc l v o).u (fin69 neg sc l v o).s, ob137 ((fin69 neg sc l v o).v / 18446744073709551616) ((fin69 neg sc l v o).v % 18446744073709551616) (fin69 neg sc l v o).g])
  | [], i, v, o, hl, hne, h0, h1, ho => absurd rfl hne
  | c :: l, i, v, o, hl, hne, h0, h1, ho => by
    have hi : i < s.length := by
      rcases Nat.lt_or_ge i s.length with h | h
      · exact h
      · rw [List.drop_eq_nil_of_le h] at hl; cases hl
    have hc : s.getD (i : Int).toNat 0 = c := by
      rw [List.drop_eq_getElem_cons hi] at hl
      injection hl with hl _
      simp [List.getD_eq_getElem?_getD, hi, hl]
    have hl' : s.drop (i + 1) = l := by
      rw [List.drop_eq_getElem_cons hi] at hl
      injection hl
    have q := q69 ml sc' neg o sc i (v / 18446744073709551616) (v % 18446744073709551616) s
    rw [hc, bif_true (by simp; omega)] at q
    have hw : IntKind.i64.wrap ((i : Int) + 1) = ((i + 1 : Nat) : Int) := by rw [w64 (by omega) (by omega)]; omega
    rw [hw] at q
    cases hd : isD c with
    | false =>
      have : decide (dg c > 9) = true := by simpa [isD] using hd
      rw [this, cond_true] at q
      have e : fin69 neg sc (c :: l) v o = ⟨21, 0, 0, v, false⟩ := by simp [fin69, hd]
      rw [e]
      exact ⟨i, o, .out q rfl⟩
    | true =>
      have h9 := dg_le hd
      have h9' := dg_bd c
      have : decide (dg c > 9) = false := by simpa [isD] using hd
      rw [this, cond_false] at q
      -- behind the last digit
      have tail : ∀ (o : Bool) (v : Int), 0 ≤ v → tail69 neg sc o ((i + 1 : Nat) : Int) s (v / 18446744073709551616) (v % 18446744073709551616) = some (.ret, mkSt 96 (st69 (fin69 neg sc [] v o).e neg sc o ((i + 1 : Nat) : Int) s) [ob105 (fin69 neg sc [] v o).u (fin69 neg sc [] v o).s, ob137 ((fin69 neg sc [] v o).v / 18446744073709551616) ((fin69 neg sc [] v o).v % 18446744073709551616) (fin69 neg sc [] v o).g]) := by
        intro o v hv
        unfold tail69 fin69
        have ez : (v / 18446744073709551616 == 0 && (v % 18446744073709551616 == 0 && true)) = (v == 0) := by
          rw [Bool.eq_iff_iff]
          simp only [Bool.and_eq_true, beq_iff_eq, and_true]
          omega
        rw [ez]
        cases (bif neg then v == 0 else false) <;> cases o <;> rfl
      have last : ∀ (o : Bool) (v : Int), 0 ≤ v → v < 340282366920938463463374607431768211456 → (o = false → v < 18446744073709551616) →
          (roundT (E69 ml sc') 150 keep69 (restOf body69 0) (mkSt 96 (st69 0 neg sc o i s) [ob105 0 0, ob137 (v / 18446744073709551616) (v % 18446744073709551616) false])).run = (roundT (E69 ml sc') 150 keep69 (restOf body69 0) (mkSt 96 (st69 0 neg sc o i s) [ob105 0 0, ob137 (v / 18446744073709551616) (v % 18446744073709551616) false])).run := fun _ _ _ _ _ => rfl
      clear last
      -- one round: either on, or at the end
      have on : ∀ (o2 : Bool) (v2 : Int), 0 ≤ v2 → v2 < 340282366920938463463374607431768211456 → (o2 = false → v2 < 18446744073709551616) → fin69 neg sc (c :: l) v o = fin69 neg sc l v2 o2 →
          (roundT (E69 ml sc') 150 keep69 (restOf body69 0) (mkSt 96 (st69 0 neg sc o i s) [ob105 0 0, ob137 (v / 18446744073709551616) (v % 18446744073709551616) false])).run =
            (bif decide (((i + 1 : Nat) : Int) < s.length) then some (.gto 0, mkSt 96 (st69 0 neg sc o2 ((i + 1 : Nat) : Int) s) [ob105 0 0, ob137 (v2 / 18446744073709551616) (v2 % 18446744073709551616) false]) else tail69 neg sc o2 ((i + 1 : Nat) : Int) s (v2 / 18446744073709551616) (v2 % 18446744073709551616)) →
          ∃ (i' : Int) (o' : Bool), JS (E69 ml sc') 150 keep69 body69 (restOf body69 0) (mkSt 96 (st69 0 neg sc o i s) [ob105 0 0, ob137 (v / 18446744073709551616) (v % 18446744073709551616) false])
            (.ret, mkSt 96 (st69 (fin69 neg sc (c :: l) v o).e neg sc o' i' s) [ob105 (fin69 neg sc (c :: l) v o).u (fin69 neg sc (c :: l) v o).s, ob137 ((fin69 neg sc (c :: l) v o).v / 18446744073709551616) ((fin69 neg sc (c :: l) v o).v % 18446744073709551616) (fin69 neg sc (c :: l) v o).g]) := by
        intro o2 v2 g0 g1 g2 ef hq
        rw [ef]
        cases l with
        | nil =>
          have hlen : s.length ≤ i + 1 := by
            have := congrArg List.length hl'
            simp at this
            omega
          rw [bif_false (dec_false (by omega)), tail o2 v2 g0] at hq
          exact ⟨_, _, .out hq rfl⟩
        | cons c2 l2 =>
          have hlen : i + 1 < s.length := by
            have := congrArg List.length hl'
            simp at this
            omega
          rw [bif_true (dec_true (by omega))] at hq
          obtain ⟨i', o', hj⟩ := js69 ml sc' neg sc s hs (c2 :: l2) (i + 1) v2 o2 hl' (by simp) g0 g1 g2
          exact ⟨i', o', .next hq (by kernel_rfl) hj⟩
      cases o with
      | true =>
        rw [Bool.not_true, cond_false] at q
        exact on true v h0 h1 ho (by simp [fin69, hd]) q
      | false =>
        have hv := ho rfl
        rw [Bool.not_false, cond_true] at q
        have es := step69 h0 hv c h9
        rw [es] at q
        have b1 : (in64 (v / 18446744073709551616) && in64 (v % 18446744073709551616) && in64 10 && decide ((v / 18446744073709551616 * 18446744073709551616 + v % 18446744073709551616) * 10 < 340282366920938463463374607431768211456)) = true := by
          simp only [Bool.and_eq_true, in64_iff, decide_eq_true_eq]; omega
        rw [bif_true b1] at q
        have b2 : (false == false && in64 ((v / 18446744073709551616 * 18446744073709551616 + v % 18446744073709551616) * 10 / 18446744073709551616) && in64 ((v / 18446744073709551616 * 18446744073709551616 + v % 18446744073709551616) * 10 % 18446744073709551616) && in64 0 && in64 (IntKind.u64.wrap (dg c)) && decide (v * 10 + dg c < 340282366920938463463374607431768211456)) = true := by
          simp only [Bool.and_eq_true, in64_iff, decide_eq_true_eq, beq_self_eq_true, true_and]
          rw [wu64 (by omega) (by omega)]; omega
        rw [bif_true b2] at q
        have eo : decide ((v * 10 + dg c) / 18446744073709551616 > 0) = decide (v * 10 + dg c ≥ 18446744073709551616) := by
          rw [Bool.eq_iff_iff]; simp only [decide_eq_true_eq]; omega
        rw [eo] at q
        exact on (decide (v * 10 + dg c ≥ 18446744073709551616)) (v * 10 + dg c) (by omega) (by omega) (fun h => by simp at h; omega) (by simp [fin69, hd]) q


noncomputable def sc69 : Code → St → Tree (Ex × St) := fun _ s => told 96 [(0, false), (2, false), (3, false)] L69 s
noncomputable def E69' (ml : Int) : Env := E69 ml sc69

theorem ju69 (ml : Int) (s : List UInt8) (hs : short s = true) : ∃ S ks', JU (E69' ml) 150 keep69 body69 0 (restOf body69 0) (mkSt 96 [(0, .str s, false), (2, .loc 0 0, false), (3, .int .i64 0, false)] [ob105 0 0]) (.ret, S) ∧ S.v.length = 96 ∧
    S.h = ob105 (run69 s).u (run69 s).s :: (bif early69 s then [] else [ob137 ((run69 s).v / 18446744073709551616) ((run69 s).v % 18446744073709551616) (run69 s).g]) ∧ [(2, .loc 0 0, false), (3, .int .i64 (run69 s).e, false)] = few ks' S := by
  have hlt := short_lt hs
  have q := s69 ml sc69 s
  have hd : (digs69 s).length ≤ s.length := by unfold digs69; cases isFirst 45 s <;> simp
  have hw : (whole69 s).length ≤ (digs69 s).length := pre_le _ _
  have hp : (part69 s).length ≤ (digs69 s).length := by unfold part69; rw [← post_drop]; simp
  have hd2 : short (digs69 s) = true := by unfold short; simp; omega
  rw [bif_true hs, bif_true hd2] at q
  have key : (roundT (E69' ml) 150 keep69 (uptoL body69 0) (mkSt 96 [(0, .str s, false), (2, .loc 0 0, false), (3, .int .i64 0, false)] [ob105 0 0])).run = bif early69 s then bad69 s else some (.nrm, mkSt 96 (st69 0 (isFirst 45 s) (part69 s).length false 0 (whole69 s ++ part69 s)) [ob105 0 0, ob137 0 0 false]) := by
    refine Eq.trans q ?_
    unfold early69 go69b go69
    rw [bif_true (b := decide ((whole69 s).length + (part69 s).length ≤ 9223372036854775807)) (dec_true (by omega))]
    cases h1 : (whole69 s == []) with
    | true => rfl
    | false =>
      have h0 : (decide ((0 : Int) ≤ 0) && decide ((0 : Int) < (whole69 s).length)) = true := by
        have : whole69 s ≠ [] := by simpa using h1
        have := List.length_pos_iff.2 this
        simp; omega
      rw [bif_true h0]
      cases point69 s <;> cases (part69 s == []) <;> cases decide (((part69 s).length : Int) > 6) <;> cases decide (((whole69 s).length : Int) > 1) <;> simp only [Int.toNat_zero] <;> cases ((((whole69 s).getD 0 0).toNat : Int) == 48) <;> rfl
  cases he : early69 s with
  | true =>
    rw [he, cond_true] at key
    have er : run69 s = ⟨21, 0, 0, 0, false⟩ := by unfold run69; rw [he]; rfl
    rw [er]
    exact ⟨_, [(2, false), (3, false)], .out key rfl rfl, rfl, rfl, rfl⟩
  | false =>
    rw [he, cond_false] at key
    have er : run69 s = fin69 (isFirst 45 s) (part69 s).length (whole69 s ++ part69 s) 0 false := by unfold run69; rw [he]; rfl
    rw [er]
    have hne : whole69 s ++ part69 s ≠ [] := by
      intro h
      have : whole69 s = [] := by
        have := congrArg List.length h
        simp at this
        exact this.1
      unfold early69 at he
      simp [this] at he
    obtain ⟨i', o', hj⟩ := js69 ml sc69 (isFirst 45 s) (part69 s).length (whole69 s ++ part69 s) (by simp; omega) (whole69 s ++ part69 s) 0 0 false rfl hne (by omega) (by omega) (fun _ => by omega)
    exact ⟨_, [(2, false), (3, false)], .over _ key hj, rfl, rfl, rfl⟩

theorem turns69 (ml : Int) (h : (lib ml).Knows (kn prims)) (c : Ctx) (hg : GlobOK (E69' ml) c) : Turns (lib ml).P (E69' ml) c (bodyOf Tryz.f69) := by
  have hE : EnvOK (lib ml).P (E69' ml) := (lib_ok ml).env (C3_ok ml h) _ _
  have hD := draw_ok hE hg (lib_ok ml).mixed
  refine turns_mk (ls := []) (ss := [body69]) (by kernel_rfl) (by kernel_rfl) (fun _ hx => by cases hx) fun x hx => ?_
  cases List.mem_singleton.1 hx
  refine scope_cut hE hg hD (turns_nil (by kernel_rfl) (by kernel_rfl)) keep69 150 96 0 (restOf body69 0) (by kernel_rfl) [(0, false), (2, false), (3, false)] L69 (fun s => rfl) fun xs h0 r hx hr => ?_
  unfold L69 at hr
  split at hr
  · rename_i s z x y
    obtain ⟨hc, rfl⟩ := need_ret_inv hr
    simp only [Bool.and_eq_true, decide_eq_true_eq] at hc
    obtain ⟨⟨⟨hs, rfl⟩, rfl⟩, rfl⟩ := hc
    exact ju69 ml s hs
  · cases hr

noncomputable def a69 : Ans := fun args h => match args, h with
  | [.str s], [] => .need (short s) (.ret ⟨.tup [.agg [.int .i64 (run69 s).u, .int .i64 (run69 s).s], .int .i64 (run69 s).e], [false, false], []⟩)
  | _, _ => .fail

theorem r69 (ml : Int) (s : List UInt8) : (callT (E69' ml) Tryz.f69 [.str s] []).run =
    bif short s && decide ((0 : Int) = 0) && decide ((0 : Int) = 0) && decide ((0 : Int) = 0) then some ⟨.tup [.agg [.int .i64 (run69 s).u, .int .i64 (run69 s).s], .int .i64 (run69 s).e], [false, false], []⟩ else none := by kernel_rfl

theorem a69_ok (ml : Int) (h : (lib ml).Knows (kn prims)) : (lib ml).AnsOK 69 a69 := by
  refine told_ok (lib_ok ml) (C3_ok ml h) (lp := noTurn) (sc := sc69) (fn := Tryz.f69) (by kernel_rfl) (by kernel_rfl) (turns69 ml h) fun args hh r hr => ?_
  unfold a69 at hr
  split at hr
  · rename_i s
    obtain ⟨hc, rfl⟩ := need_ret_inv hr
    refine (r69 ml s).trans ?_
    rw [hc]
    rfl
  · cases hr

end Go.Proofs.YtgikackicafjbaaGreatDoor
