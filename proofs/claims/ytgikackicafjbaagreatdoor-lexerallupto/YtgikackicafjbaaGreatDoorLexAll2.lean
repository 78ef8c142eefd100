/- LexerAll: what it answers. -/
import Derived.Test.YtgikackicafjbaaGreatDoorLexAll
set_option linter.unusedVariables false
open Go.Proofs
namespace Go.Proofs.YtgikackicafjbaaGreatDoor
open Go.Pi

variable {ml : Int} {s : List UInt8} {xs : List PVal}

theorem byte_eq (c d : UInt8) : ((c.toNat : Int) == (d.toNat : Int)) = (c == d) := by
  rw [Bool.eq_iff_iff, beq_iff_eq, beq_iff_eq]
  constructor
  · intro h; exact UInt8.toNat_inj.1 (by omega)
  · rintro rfl; rfl

theorem blk_cons {k e : Nat} {c : UInt8} {r : List UInt8} (h : s.drop k = c :: r) (hk : k < e) : blk s k e = (blank c && blk s ((k + 1 : Nat) : Int) e) := by
  unfold blk
  simp only [Int.toNat_natCast]
  obtain ⟨_, _, h3⟩ := get_at h
  rw [h, h3, show e - k = (e - (k + 1)) + 1 by omega, List.take_succ_cons, List.all_cons]
theorem blk_nil (e : Nat) : blk s e e = true := by
  unfold blk
  simp

theorem ih6i {lp : Code → St → Tree (Ex × St)} (at_ i : Int) (e : Nat) (hs : s.length < 4294967281) (he : e ≤ s.length) : ∀ (n k : Nat), k + n = e →
    (blk s k e = true → IH (E6 ml lp) 150 keep6i body6i (mkSt 110 (st6i s xs at_ i e k)) (.ext 2, mkSt 110 (st6i s xs at_ i e e))) ∧
    (blk s k e = false → ∃ k' : Int, IH (E6 ml lp) 150 keep6i body6i (mkSt 110 (st6i s xs at_ i e k)) (.ret, mkSt 110 (fls ++ st6i s xs at_ i e k')))
  | 0, k, h => by
    have hk : k = e := by omega
    subst hk
    rw [blk_nil]
    have q := q6i ml lp s xs at_ i k k
    unfold rnd6i at q
    rw [bif_false (dec_false (by omega))] at q
    exact ⟨fun _ => .out q rfl, fun h => (by cases h)⟩
  | n + 1, k, h => by
    have hk : k < e := by omega
    obtain ⟨c, r, hr⟩ : ∃ c r, s.drop k = c :: r := ⟨_, _, List.drop_eq_getElem_cons (by omega)⟩
    have q := q6i ml lp s xs at_ i e k
    unfold rnd6i at q
    rw [bif_true (dec_true (by omega)), in_ok (by omega), in_ok (by omega), in_ok (by omega), at_nat hr, wi k (by omega)] at q
    have e32 := byte_eq c 32
    have e9 := byte_eq c 9
    have e10 := byte_eq c 10
    rw [blk_cons hr hk]
    have ih := ih6i (lp := lp) at_ i e hs he n (k + 1) (by omega)
    have eb : blank c = ((c == 32) || (c == 9) || (c == 10)) := by
      unfold blank
      simp only [List.contains_cons, List.contains_nil, Bool.or_false]
      rw [Bool.or_assoc]
    have nxt : ∀ b : Bool, (bif b then some (Ex.nrm, mkSt 110 (st6i s xs at_ i e ((k + 1 : Nat) : Int))) else some (Ex.nrm, mkSt 110 (st6i s xs at_ i e ((k + 1 : Nat) : Int)))) = some (Ex.nrm, mkSt 110 (st6i s xs at_ i e ((k + 1 : Nat) : Int))) := by intro b; cases b <;> rfl
    have key : (roundH (E6 ml lp) 150 keep6i body6i (mkSt 110 (st6i s xs at_ i e k))).run = bif blank c then some (Ex.nrm, mkSt 110 (st6i s xs at_ i e ((k + 1 : Nat) : Int))) else some (.ret, mkSt 110 (fls ++ st6i s xs at_ i e k)) := by
      rw [q, eb]
      unfold bne
      rw [show ((c.toNat : Int) == 32) = (c == 32) from e32, show ((c.toNat : Int) == 9) = (c == 9) from e9, show ((c.toNat : Int) == 10) = (c == 10) from e10]
      generalize (c == 32) = p1
      generalize (c == 9) = p2
      generalize (c == 10) = p3
      cases p1 <;> cases p2 <;> cases p3 <;> rfl
    cases hb : blank c with
    | true =>
      rw [hb, cond_true] at key
      rw [Bool.true_and]
      exact ⟨fun h => .next key (ih.1 h), fun h => let ⟨k', g⟩ := ih.2 h; ⟨k', .next key g⟩⟩
    | false =>
      rw [hb, cond_false] at key
      rw [Bool.false_and]
      exact ⟨fun h => (by cases h), fun _ => ⟨k, .out key rfl⟩⟩

theorem no_out {at_ i : Int} (h : (roundH (E6 ml (lp6 ml)) 150 keep6o body6o (mkSt 110 (st6o s xs at_ i))).run = no6 s xs at_ i) : ∃ S, IH (E6 ml (lp6 ml)) 150 keep6o body6o (mkSt 110 (st6o s xs at_ i)) (.ret, S) ∧ S.v.length = 110 ∧ S.h = [] ∧ fls = few [(2, false)] S :=
  ⟨_, .out h rfl, rfl, rfl, rfl⟩

theorem ih6o (hs : s.length < 4294967281) (hx : xs.length < 1099511627776) (hf : fitAll (TY (lib ml).P) 38 xs = true) : ∀ (l : List PVal) (i a : Nat), xs.drop i = l → i ≤ xs.length → a ≤ s.length →
    (chk6 s l a = true → ∃ (a' i' : Int), IH (E6 ml (lp6 ml)) 150 keep6o body6o (mkSt 110 (st6o s xs a i)) (.ext 0, mkSt 110 (st6o s xs a' i'))) ∧
    (chk6 s l a = false → ∃ S, IH (E6 ml (lp6 ml)) 150 keep6o body6o (mkSt 110 (st6o s xs a i)) (.ret, S) ∧ S.v.length = 110 ∧ S.h = [] ∧ fls = few [(2, false)] S)
  | [], i, a, hl, hi, ha => by
    have hi2 : i = xs.length := by
      have := congrArg List.length hl
      simp at this; omega
    subst hi2
    have q := q6o ml s xs a xs.length
    unfold rnd6o at q
    rw [bif_true (dec_true (by omega)), bif_false (dec_false (by omega))] at q
    unfold mid6 end6 at q
    rw [bif_false (dec_false (by omega)), bif_false (dec_false (by omega)), bif_true (by simp; omega), bif_false (b := decide ((xs.length : Int) < xs.length)) (dec_false (by omega)), wi xs.length (by omega)] at q
    have q2 := q6o ml s xs a ((xs.length + 1 : Nat) : Int)
    unfold rnd6o at q2
    rw [bif_false (dec_false (by omega))] at q2
    have eo : okE s a s.length = true := by unfold okE; simp; omega
    unfold chk6
    rw [eo, Bool.true_and]
    cases hb : blk s a s.length with
    | true =>
      rw [hb] at q
      exact ⟨fun _ => ⟨_, _, .next q (.out q2 rfl)⟩, fun h => by cases h⟩
    | false =>
      rw [hb] at q
      exact ⟨fun h => (by cases h), fun _ => ⟨_, .out q rfl, rfl, rfl, rfl⟩⟩
  | p :: l, i, a, hl, hi, ha => by
    have hi2 : i < xs.length := by
      have := congrArg List.length hl
      simp at this; omega
    have hp : xs.getD (i : Int).toNat .junk = p := by
      rw [List.drop_eq_getElem_cons hi2] at hl
      rw [Int.toNat_natCast, List.getD_eq_getElem?_getD, List.getElem?_eq_getElem hi2, Option.getD_some]
      exact (List.cons.inj hl).1
    have hl' : xs.drop (i + 1) = l := by
      rw [List.drop_eq_getElem_cons hi2] at hl
      exact (List.cons.inj hl).2
    have q := q6o ml s xs a i
    unfold rnd6o at q
    have ix : ∀ r, idx6 ml xs (i : Int) r = r := by intro r; unfold idx6; rw [bif_true (by simp; omega), bif_true hf]
    rw [bif_true (dec_true (by omega)), bif_true (dec_true (by omega)), ix, hp] at q
    unfold mid6 end6 at q
    rw [bif_true (b := decide ((i : Int) < xs.length)) (dec_true (by omega)), ix, ix, hp] at q
    unfold chk6
    by_cases h1 : decP p < a
    · rw [dec_true h1] at q
      have : okE s a (decP p) = false := by unfold okE; rw [dec_true h1]; rfl
      rw [this]
      exact ⟨fun h => (by cases h), fun _ => no_out q⟩
    · by_cases h2 : decP p > s.length
      · rw [dec_false h1, dec_true h2] at q
        have : okE s a (decP p) = false := by unfold okE; rw [dec_false h1, dec_true h2]; rfl
        rw [this]
        exact ⟨fun h => (by cases h), fun _ => no_out q⟩
      · have eo : okE s a (decP p) = true := by unfold okE; rw [dec_false h1, dec_false h2]; rfl
        rw [dec_false h1, dec_false h2, cond_false, cond_false, bif_true (by simp; omega)] at q
        rw [eo, Bool.true_and]
        cases hb : blk s a (decP p) with
        | false =>
          rw [hb] at q
          exact ⟨fun h => (by cases h), fun _ => ⟨_, .out q rfl, rfl, rfl, rfl⟩⟩
        | true =>
          rw [hb, cond_true] at q
          obtain ⟨e, he⟩ : ∃ e : Nat, decP p = e := ⟨(decP p).toNat, by omega⟩
          rw [he] at q h1 h2 ⊢
          rw [Bool.true_and]
          generalize decX p = x at q ⊢
          rw [w64 (n := (s.length : Int) - e) (by omega) (by omega)] at q
          unfold okT
          by_cases h3 : (x.length : Int) = 0
          · have : ((x.length : Int) == 0) = true := beq_iff_eq.2 h3
            rw [this] at q ⊢
            exact ⟨fun h => (by cases h), fun _ => no_out q⟩
          · have h3' : ((x.length : Int) == 0) = false := beq_eq_false_iff_ne.2 h3
            rw [h3', cond_false] at q
            rw [h3']
            by_cases h4 : (x.length : Int) > s.length - e
            · rw [dec_true h4] at q ⊢
              exact ⟨fun h => (by cases h), fun _ => no_out q⟩
            · rw [dec_false h4, cond_false] at q
              rw [dec_false h4]
              have hw : IntKind.i64.wrap ((e : Int) + x.length) = ((e + x.length : Nat) : Int) := by rw [w64 (by omega) (by omega)]; omega
              rw [hw, may_ok (by omega) (by omega), cut_nat, show e + x.length - e = x.length by omega, wi i (by omega)] at q
              simp only [Int.toNat_natCast, Bool.not_false, Bool.true_and]
              cases h5 : ((s.drop e).take x.length == x) with
              | false =>
                rw [h5] at q
                exact ⟨fun h => (by cases h), fun _ => no_out q⟩
              | true =>
                rw [h5] at q
                rw [Bool.true_and]
                have ih := ih6o hs hx hf l (i + 1) (e + x.length) hl' (by omega) (by omega)
                have ee : ((e + x.length : Nat) : Int) = (e : Int) + (x.length : Int) := by omega
                rw [ee] at ih q
                refine ⟨fun h => ?_, fun h => ?_⟩
                · obtain ⟨a', i', g⟩ := ih.1 h
                  exact ⟨a', i', .next q g⟩
                · obtain ⟨S, g, g2⟩ := ih.2 h
                  exact ⟨S, .next q g, g2⟩

theorem turns6 (ml : Int) (h : (lib ml).Knows (kn prims)) (c : Ctx) (hg : GlobOK (E6 ml (lp6 ml)) c) (hc : c.m = []) : Turns (lib ml).P (E6 ml (lp6 ml)) c (bodyOf Tryz.f6) := by
  have hE : EnvOK (lib ml).P (E6 ml (lp6 ml)) := (lib_ok ml).env (M1_ok ml h) _ _
  have hD := draw_ok hE hg (lib_ok ml).mixed
  have inner : Holds1 (lib ml).P (E6 ml (lp6 ml)) c (E6 ml (lp6 ml)).lp .loop body6i := by
    refine loop_bare hE hg hD hc (turns_nil (by kernel_rfl) (by kernel_rfl)) keep6i 150 110 [(0, false), (3, false), (5, false), (6, false), (7, false), (8, false)] L6i (fun s => by kernel_rfl) fun xs h0 r hx hr => ?_
    unfold L6i at hr
    split at hr
    · rename_i s ys at_ i e k
      obtain ⟨hcc, hr2⟩ := tree_need hr
      clear hr
      simp only [Bool.and_eq_true, decide_eq_true_eq] at hcc
      obtain ⟨⟨⟨⟨h1, h2⟩, h3⟩, h4⟩, h5⟩ := hcc
      obtain ⟨k, rfl⟩ : ∃ n : Nat, k = n := ⟨k.toNat, by omega⟩
      obtain ⟨e, rfl⟩ : ∃ n : Nat, e = n := ⟨e.toNat, by omega⟩
      have ih := ih6i (ml := ml) (lp := lp6 ml) (xs := ys) at_ i e h5 (by omega) (e - k) k (by omega)
      refine ⟨rfl, ?_⟩
      cases hb : blk s k e with
      | true =>
        rw [hb] at hr2
        have := run_ret_inv (show (Tree.ret _).run = some r from hr2)
        subst this
        exact ⟨_, [(0, false), (3, false), (5, false), (6, false), (7, false)], ih.1 hb, rfl, rfl, rfl⟩
      | false =>
        rw [hb] at hr2
        have := run_ret_inv (show (Tree.ret _).run = some r from hr2)
        subst this
        obtain ⟨k', g⟩ := ih.2 hb
        exact ⟨_, [(2, false)], g, rfl, rfl, rfl⟩
    · cases hr
  have outer : Holds1 (lib ml).P (E6 ml (lp6 ml)) c (E6 ml (lp6 ml)).lp .loop body6o := by
    refine loop_bare hE hg hD hc (turns_mk (ls := [body6i]) (ss := []) (by kernel_rfl) (by kernel_rfl) (fun x hx => by cases List.mem_singleton.1 hx; exact inner) (fun _ hx => by cases hx)) keep6o 150 110 [(0, false), (3, false), (5, false), (6, false)] (L6o ml) (fun s => by kernel_rfl) fun xs h0 r hx hr => ?_
    unfold L6o at hr
    split at hr
    · rename_i s ys at_ i
      obtain ⟨hcc, hr2⟩ := tree_need hr
      clear hr
      simp only [Bool.and_eq_true, decide_eq_true_eq] at hcc
      obtain ⟨⟨⟨⟨rfl, rfl⟩, h3⟩, h4⟩, h5⟩ := hcc
      have ih := ih6o (ml := ml) (xs := ys) h3 h4 h5 ys 0 0 rfl (by omega) (by omega)
      refine ⟨rfl, ?_⟩
      cases hb : chk6 s ys 0 with
      | true =>
        rw [hb] at hr2
        have := run_ret_inv (show (Tree.ret _).run = some r from hr2)
        subst this
        obtain ⟨a', i', g⟩ := ih.1 hb
        exact ⟨_, [], g, rfl, rfl, rfl⟩
      | false =>
        rw [hb] at hr2
        have := run_ret_inv (show (Tree.ret _).run = some r from hr2)
        subst this
        obtain ⟨S, g, g1, g2, g3⟩ := ih.2 hb
        exact ⟨S, [(2, false)], g, g1, g2, g3⟩
    · cases hr
  refine turns_mk (ls := [body6o, body6i]) (ss := []) (by kernel_rfl) (by kernel_rfl) (fun x hx => ?_) (fun _ hx => by cases hx)
  rcases List.mem_cons.1 hx with rfl | hx
  · exact outer
  · cases List.mem_singleton.1 hx; exact inner
end Go.Proofs.YtgikackicafjbaaGreatDoor
