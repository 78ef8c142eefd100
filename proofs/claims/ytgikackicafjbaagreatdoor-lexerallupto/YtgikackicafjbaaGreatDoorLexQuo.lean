/- datum.quoted. -/
import Derived.Test.YtgikackicafjbaaGreatDoorLexDecR
set_option linter.unusedVariables false
open Go.Proofs
namespace Go.Proofs.YtgikackicafjbaaGreatDoor
open Go.Pi

/-- Within quotes. -/
def unq : List UInt8 → List UInt8 → List UInt8 × Bool
  | [], _ => ([], false)
  | [c], acc => bif c == 39 then (acc, true) else ([], false)
  | c :: c2 :: l, acc => bif c == 39 then (bif c2 == 39 then unq l (acc ++ [c]) else (acc, false)) else unq (c2 :: l) (acc ++ [c])

def bcell (b : UInt8) : PVal := .int .u8 b.toNat
def st67 (t : List UInt8) (ok : Bool) (sz : Nat) (xs : List PVal) (i : Int) (s : List UInt8) : Few := [(0, .str s, false), (2, .str t, false), (3, .bool ok, false), (4, .sl sz xs, true), (5, .int .i64 i, false)]
def keep67 : List Nat := [0, 2, 3, 4, 5]
noncomputable def body67 : Code := scopeN Tryz.f67 0
noncomputable def E67 (ml : Int) (sc : Code → St → Tree (Ex × St)) : Env := (lib ml).env (kn prims) noTurn sc

def end67 (sz : Nat) (xs : List PVal) (i : Int) (s : List UInt8) : Option (Ex × St) :=
  bif xs.all isU8 then some (.ret, mkSt 44 (st67 (xs.map Pi.byteOf) (i == s.length) sz xs i s)) else none
def app67 (xs : List PVal) (c : UInt8) (i : Int) (s : List UInt8) : Option (Ex × St) :=
  bif decide ((xs.length + 1) * 1 ≤ 140737488355328) && decide (xs.length + 1 ≤ 9223372036854775807) then some (.gto 0, mkSt 44 (st67 [] false 1 (xs ++ [bcell c]) i s)) else none
def rnd67 (sz : Nat) (xs : List PVal) (i : Int) (s : List UInt8) : Option (Ex × St) :=
  bif decide (i ≥ s.length) then some (.ret, mkSt 44 (st67 [] false sz xs i s))
  else bif decide (0 ≤ i) && decide (i < s.length) then
    bif ((s.getD i.toNat 0).toNat : Int) != 39 then app67 xs (s.getD i.toNat 0) (IntKind.i64.wrap (i + 1)) s
    else bif decide (IntKind.i64.wrap (i + 1) < s.length) then
      bif decide (0 ≤ IntKind.i64.wrap (i + 1)) && decide (IntKind.i64.wrap (i + 1) < s.length) then
        bif ((s.getD (IntKind.i64.wrap (i + 1)).toNat 0).toNat : Int) == 39 then app67 xs (s.getD i.toNat 0) (IntKind.i64.wrap (IntKind.i64.wrap (i + 1) + 1)) s
        else end67 sz xs (IntKind.i64.wrap (i + 1)) s
      else none
    else end67 sz xs (IntKind.i64.wrap (i + 1)) s
  else none

set_option maxRecDepth 100000 in
theorem q67a (ml : Int) (sc' : Code → St → Tree (Ex × St)) (i : Int) (s : List UInt8) (xs : List PVal) :
    (roundT (E67 ml sc') 150 keep67 (restOf body67 0) (mkSt 44 (st67 [] false 1 xs i s))).run = rnd67 1 xs i s := by kernel_rfl
set_option maxRecDepth 100000 in
theorem q67b (ml : Int) (sc' : Code → St → Tree (Ex × St)) (i : Int) (s : List UInt8) :
    (roundT (E67 ml sc') 150 keep67 (restOf body67 0) (mkSt 44 (st67 [] false 0 [] i s))).run = rnd67 0 [] i s := by kernel_rfl
theorem s67 (ml : Int) (sc' : Code → St → Tree (Ex × St)) (s : List UInt8) :
    (roundT (E67 ml sc') 150 keep67 (uptoL body67 0) (mkSt 44 [(0, .str s, false), (2, .str [], false), (3, .bool false, false)])).run = some (.nrm, mkSt 44 (st67 [] false 1 [] 1 s)) := by kernel_rfl

theorem q67 (ml : Int) (sc' : Code → St → Tree (Ex × St)) (i : Int) (s : List UInt8) (sz : Nat) (xs : List PVal) (h : sz = 1 ∨ (sz = 0 ∧ xs = [])) :
    (roundT (E67 ml sc') 150 keep67 (restOf body67 0) (mkSt 44 (st67 [] false sz xs i s))).run = rnd67 sz xs i s := by
  rcases h with rfl | ⟨rfl, rfl⟩
  · exact q67a ml sc' i s xs
  · exact q67b ml sc' i s

theorem bcells_u8 (l : List UInt8) : (l.map bcell).all isU8 = true := by simp [bcell, isU8]
theorem bcells_back (l : List UInt8) : (l.map bcell).map Pi.byteOf = l := by
  rw [List.map_map]
  conv => rhs; rw [← List.map_id l]
  apply List.map_congr_left
  intro b _
  simp [bcell, Pi.byteOf]

theorem get_at {s : List UInt8} {i : Nat} {c : UInt8} {l : List UInt8} (h : s.drop i = c :: l) : i < s.length ∧ s.getD i 0 = c ∧ s.drop (i + 1) = l := by
  have hi : i < s.length := by
    rcases Nat.lt_or_ge i s.length with h' | h'
    · exact h'
    · rw [List.drop_eq_nil_of_le h'] at h; cases h
  rw [List.drop_eq_getElem_cons hi] at h
  injection h with h1 h2
  exact ⟨hi, by simp [List.getD_eq_getElem?_getD, hi, h1], h2⟩

theorem js67 (ml : Int) (sc' : Code → St → Tree (Ex × St)) (s : List UInt8) (hs : s.length < 70368744177664) : ∀ (k : Nat) (l acc : List UInt8) (i sz : Nat), l.length ≤ k → s.drop i = l → acc.length + l.length ≤ s.length → (sz = 1 ∨ (sz = 0 ∧ acc = [])) → i ≤ s.length →
    ∃ (sz' : Nat) (xs' : List PVal) (i' : Int), JS (E67 ml sc') 150 keep67 body67 (restOf body67 0) (mkSt 44 (st67 [] false sz (acc.map bcell) i s)) (.ret, mkSt 44 (st67 (unq l acc).1 (unq l acc).2 sz' xs' i' s))
  | k, [], acc, i, sz, hk, hl, ha, hz, hi => by
    have hi : s.length ≤ i := by
      have := congrArg List.length hl
      simp at this
      omega
    have q := q67 ml sc' i s sz (acc.map bcell) (by rcases hz with h | ⟨h, rfl⟩; exact .inl h; exact .inr ⟨h, rfl⟩)
    rw [rnd67, bif_true (dec_true (by omega))] at q
    exact ⟨_, _, _, .out q rfl⟩
  | 0, c :: t, acc, i, sz, hk, hl, ha, hz, hi => by simp at hk
  | k + 1, c :: t, acc, i, sz, hk, hl, ha, hz, hi => by
    obtain ⟨h1, h2, h3⟩ := get_at hl
    have q := q67 ml sc' i s sz (acc.map bcell) (by rcases hz with h | ⟨h, rfl⟩; exact .inl h; exact .inr ⟨h, rfl⟩)
    have hw : IntKind.i64.wrap ((i : Int) + 1) = ((i + 1 : Nat) : Int) := by rw [w64 (by omega) (by omega)]; omega
    have hw2 : IntKind.i64.wrap (((i + 1 : Nat) : Int) + 1) = ((i + 2 : Nat) : Int) := by rw [w64 (by omega) (by omega)]; omega
    rw [rnd67, bif_false (dec_false (by omega)), bif_true (by simp; omega), hw] at q
    simp only [Int.toNat_natCast] at q
    rw [h2, hw2] at q
    simp only [List.length_cons] at ha hk
    have happ : ∀ (j : Nat), app67 (acc.map bcell) c j s = some (.gto 0, mkSt 44 (st67 [] false 1 ((acc ++ [c]).map bcell) j s)) := by
      intro j
      unfold app67
      rw [bif_true (by simp; omega)]
      simp
    have hc : ((c.toNat : Int) == 39) = (c == 39) := by
      rw [Bool.eq_iff_iff, beq_iff_eq, beq_iff_eq]
      constructor
      · intro h; apply UInt8.toNat_inj.1; simpa using (by omega : c.toNat = 39)
      · rintro rfl; rfl
    have hend : ∀ (j : Nat), end67 sz (acc.map bcell) j s = some (.ret, mkSt 44 (st67 acc ((j : Int) == s.length) sz (acc.map bcell) j s)) := by
      intro j
      unfold end67
      rw [bif_true (bcells_u8 acc), bcells_back]
    cases hb : (c == 39) with
    | false =>
      have hne : ((c.toNat : Int) != 39) = true := by unfold bne; rw [hc, hb]; rfl
      rw [bif_true hne, happ] at q
      obtain ⟨sz', xs', i', hj⟩ := js67 ml sc' s hs k t (acc ++ [c]) (i + 1) 1 (by omega) h3 (by simp; omega) (.inl rfl) (by omega)
      refine ⟨sz', xs', i', .next (rest := restOf body67 0) q (by kernel_rfl) ?_⟩
      cases t with
      | nil => simpa [unq, hb] using hj
      | cons c2 t2 => simpa [unq, hb] using hj
    | true =>
      have hne : ((c.toNat : Int) != 39) = false := by unfold bne; rw [hc, hb]; rfl
      rw [bif_false hne] at q
      cases t with
      | nil =>
        have hlen : s.length = i + 1 := by
          have := congrArg List.length h3
          simp at this
          omega
        rw [bif_false (dec_false (by omega)), hend] at q
        have e : (((i + 1 : Nat) : Int) == (s.length : Int)) = true := by rw [hlen]; simp
        rw [e] at q
        have eu : unq [c] acc = (acc, true) := by simp [unq, hb]
        rw [eu]
        exact ⟨_, _, _, .out q rfl⟩
      | cons c2 t2 =>
        obtain ⟨g1, g2, g3⟩ := get_at h3
        have hc2 : ((c2.toNat : Int) == 39) = (c2 == 39) := by
          rw [Bool.eq_iff_iff, beq_iff_eq, beq_iff_eq]
          constructor
          · intro h; apply UInt8.toNat_inj.1; simpa using (by omega : c2.toNat = 39)
          · rintro rfl; rfl
        rw [bif_true (dec_true (by omega)), bif_true (by simp; omega), g2, hc2] at q
        cases hb2 : (c2 == 39) with
        | true =>
          rw [bif_true hb2, happ] at q
          simp only [List.length_cons] at ha hk
          obtain ⟨sz', xs', i', hj⟩ := js67 ml sc' s hs k t2 (acc ++ [c]) (i + 2) 1 (by omega) g3 (by simp; omega) (.inl rfl) (by omega)
          refine ⟨sz', xs', i', .next (rest := restOf body67 0) q (by kernel_rfl) ?_⟩
          simpa [unq, hb, hb2] using hj
        | false =>
          rw [bif_false hb2, hend] at q
          have e : (((i + 1 : Nat) : Int) == (s.length : Int)) = false := by simp; omega
          rw [e] at q
          have eu : unq (c :: c2 :: t2) acc = (acc, false) := by simp [unq, hb, hb2]
          rw [eu]
          exact ⟨_, _, _, .out q rfl⟩

def middle (s : List UInt8) : Bool := decide (s.length < 70368744177664)
def L67 : List (PVal × Bool) → List Ob → Tree (Ex × Few × List Ob)
  | [(.str s, false), (.str [], false), (.bool false, false)], [] => .need (middle s && decide (1 ≤ s.length)) (.ret (.ret, [(2, .str (unq (s.drop 1) []).1, false), (3, .bool (unq (s.drop 1) []).2, false)], []))
  | _, _ => .fail
noncomputable def sc67 : Code → St → Tree (Ex × St) := fun _ s => told 44 [(0, false), (2, false), (3, false)] L67 s

theorem turns67 (ml : Int) (h : (lib ml).Knows (kn prims)) (c : Ctx) (hg : GlobOK (E67 ml sc67) c) : Turns (lib ml).P (E67 ml sc67) c (bodyOf Tryz.f67) := by
  have hE : EnvOK (lib ml).P (E67 ml sc67) := (lib_ok ml).env h _ _
  have hD := draw_ok hE hg (lib_ok ml).mixed
  refine turns_mk (ls := []) (ss := [body67]) (by kernel_rfl) (by kernel_rfl) (fun _ hx => by cases hx) fun x hx => ?_
  cases List.mem_singleton.1 hx
  refine scope_cut hE hg hD (turns_nil (by kernel_rfl) (by kernel_rfl)) keep67 150 44 0 (restOf body67 0) (by kernel_rfl) [(0, false), (2, false), (3, false)] L67 (fun s => rfl) fun xs h0 r hx hr => ?_
  unfold L67 at hr
  split at hr
  · rename_i s
    obtain ⟨hc, rfl⟩ := need_ret_inv hr
    simp only [Bool.and_eq_true, middle, decide_eq_true_eq] at hc
    obtain ⟨sz', xs', i', hj⟩ := js67 ml sc67 s hc.1 (s.drop 1).length (s.drop 1) [] 1 1 (Nat.le_refl _) rfl (by simp) (.inl rfl) hc.2
    exact ⟨_, [(2, false), (3, false)], .over _ (s67 ml sc67 s) hj, rfl, rfl, rfl⟩
  · cases hr

noncomputable def a67 : Ans := fun args h => match args, h with
  | [.str s], [] => .need (middle s && decide (1 ≤ s.length)) (.ret ⟨.tup [.str (unq (s.drop 1) []).1, .bool (unq (s.drop 1) []).2], [false, false], []⟩)
  | _, _ => .fail

theorem r67 (ml : Int) (s : List UInt8) : (callT (E67 ml sc67) Tryz.f67 [.str s] []).run =
    bif middle s && decide (1 ≤ s.length) then some ⟨.tup [.str (unq (s.drop 1) []).1, .bool (unq (s.drop 1) []).2], [false, false], []⟩ else none := by kernel_rfl

theorem a67_ok (ml : Int) (h : (lib ml).Knows (kn prims)) : (lib ml).AnsOK 67 a67 := by
  refine told_ok (lib_ok ml) h (lp := noTurn) (sc := sc67) (fn := Tryz.f67) (by kernel_rfl) (by kernel_rfl) (turns67 ml h) fun args hh r hr => ?_
  unfold a67 at hr
  split at hr
  · rename_i s
    obtain ⟨hc, rfl⟩ := need_ret_inv hr
    refine (r67 ml s).trans ?_
    rw [hc]
    rfl
  · cases hr

end Go.Proofs.YtgikackicafjbaaGreatDoor
