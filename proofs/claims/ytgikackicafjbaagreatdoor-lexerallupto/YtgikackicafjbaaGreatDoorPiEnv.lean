/- What is known of a program's functions, and how more gets known. -/
import Derived.Test.YtgikackicafjbaaGreatDoorPiDraw
set_option linter.unusedVariables false
set_option linter.unusedSimpArgs false
namespace Go.Pi

/-- What is taken as known of a program: its tables, its functions without a body. -/
structure Lib where
  P : Program
  glob : Nat → Option PVal
  eqt : TypeId → Bool
  ext : FuncId → Option (List PVal → Option PVal)

structure Lib.OK (l : Lib) : Prop where
  mixed : l.P.follows .mixedOrders = true
  eqt : EqtOK l.P l.eqt
  ext : ∀ f g, l.ext f = some g → ExtOK l.P f g
  globNL : ∀ g x, l.glob g = some x → NL (.ref x)

/-- A function's answers. -/
abbrev Known := FuncId → List PVal → List Ob → Tree CR

def Lib.Knows (l : Lib) (K : Known) : Prop := ∀ f args h r, l.ext f = none → (K f args h).run = some r → CallOK l.P l.glob f args h r

def Lib.env (l : Lib) (K : Known) (lp sc : Code → St → Tree (Ex × St)) : Env := { T := TY l.P, glob := l.glob, eqt := l.eqt, ext := l.ext, call := K, lp, sc }

theorem Lib.OK.env {l : Lib} (hl : l.OK) {K : Known} (hK : l.Knows K) (lp sc : Code → St → Tree (Ex × St)) : EnvOK l.P (l.env K lp sc) := ⟨rfl, hl.eqt, hl.ext, hl.globNL, hK⟩

def noTurn : Code → St → Tree (Ex × St) := fun _ _ => .fail

/-- One function more. -/
theorem Lib.OK.fun_ {l : Lib} (hl : l.OK) {K : Known} (hK : l.Knows K) {lp sc : Code → St → Tree (Ex × St)} {f : FuncId} {fn : Func} (hf : l.P.funcs[f]? = some fn) (hname : (fn.name == "runtime.NumGoroutine") = false)
    (ht : ∀ c, GlobOK (l.env K lp sc) c → ∀ b, fn.body = some b → Turns l.P (l.env K lp sc) c b) {args : List PVal} {h : List Ob} {r : CR} (hr : (callT (l.env K lp sc) fn args h).run = some r) : CallOK l.P l.glob f args h r :=
  callT_sound (hl.env hK lp sc) (fun c hg => draw_ok (hl.env hK lp sc) hg hl.mixed) hf hname ht hr

/-- A function whose answer a law tells: it touches nothing that was there. -/
def PrimOK (P : Program) (f : FuncId) (args : List PVal) (x : PVal) : Prop :=
  (∃ fn, P.funcs[f]? = some fn ∧ (fn.name == "runtime.NumGoroutine") = false ∧ fn.body.isNone = false) ∧
  ∀ (w : World) (L : Nat → Nat) (vs : List Value), (∀ b, w.heap.size ≤ b → L b = 0) → vs.length = args.length → (∀ (i : Nat) (v : Value) (p : PVal), vs[i]? = some v → args[i]? = some p → Rep w L [] v p) →
    Calls P f vs.toArray w fun e w' => ∃ v L', e = .returned v ∧ Quiet w L w' L' ∧ Rep w' L' [] v x

theorem prim_callOK {P : Program} {glob : Nat → Option PVal} {f : FuncId} {args : List PVal} {x : PVal} (hp : PrimOK P f args x) : CallOK P glob f args [] { v := x, o := [], h := [] } := by
  refine ⟨hp.1, fun w L m tch vs hs _ => ?_⟩
  have hm : m = [] := by
    have := hs.hrel.len
    exact List.eq_nil_of_length_eq_zero this
  subst hm
  have := hp.2 w L vs.toList hs.new (by simpa [argSt] using hs.vlen) (fun i v p hv hq => hs.rep i v p (by simpa using hv) hq)
  rw [show vs.toList.toArray = vs by simp] at this
  refine this.mono fun e w' he => ?_
  obtain ⟨v, L', rfl, q, hrep⟩ := he
  have hq := hs.quiet q
  refine ⟨v, L', [], rfl, { hq with vlen := rfl, olen := rfl, al := fun t hm ht hh => ?_, rep := fun t u p hu hp => ?_, own := ?_ }⟩
  · have : t = 0 := by simpa [resSt] using ht
    subst this
    cases hh
  · have ht0 : t = 0 := by have := (Array.getElem?_eq_some_iff.1 hu).1; simpa using this
    subst ht0
    simp [resSt] at hu hp
    subst hu; subst hp
    exact hrep
  · have no : ∀ {who : Who} {u : Value} {sz : Nat}, ¬ Holds w' [] (resSt { v := x, o := [], h := [] }) #[v] who u sz := by
      intro who u sz hh
      cases hh with
      | slot t j val pv _ _ xs hv hp ho hc hq =>
        have ht0 : t = 0 := by have := (Array.getElem?_eq_some_iff.1 hv).1; simpa using this
        subst ht0
        simp [resSt] at ho
      | cell i j ob b cur e _ _ xs hi hb => simp at hb
    exact ⟨fun who u sz hh => absurd hh no, fun p q va vb sa sb k h1 => absurd h1 no⟩

end Go.Pi
set_option linter.unusedVariables false
set_option linter.unusedSimpArgs false
namespace Go.Pi

variable {P : Program} {E : Env} {c : Ctx}

theorem forget_idem (keep : List Nat) (s : St) : forget keep (forget keep s) = forget keep s := by
  have key : ∀ {α : Type} (l : List α) (z : α) (n : Nat), (((l.zipIdx n).map fun (x, i) => if keep.contains i then x else z).zipIdx n).map (fun (x, i) => if keep.contains i then x else z) = (l.zipIdx n).map fun (x, i) => if keep.contains i then x else z := by
    intro α l z
    induction l with
    | nil => intro n; rfl
    | cons x l ih =>
      intro n
      simp only [List.zipIdx_cons, List.map_cons, ih (n + 1)]
      congr 1
      split <;> rfl
  simp only [forget, key, List.map_map]
  congr 1

/-- One round, seen at the variables. -/
def roundT (E : Env) (d : Nat) (keep : List Nat) (b : Code) (s : St) : Tree (Ex × St) := (exec E d b s).bind fun (e, s) => .ret (e, forget keep s)

def iterS (E : Env) (d : Nat) (keep : List Nat) (b : Code) : Nat → St → Option (Ex × St)
  | 0, _ => none
  | n + 1, s => match (roundT E d keep b s).run with
    | some (.nrm, s') => iterS E d keep b n s'
    | r => r

theorem roundT_run {d : Nat} {keep : List Nat} {b : Code} {s : St} : (roundT E d keep b s).run = ((exec E d b s).run).map fun x => (x.1, forget keep x.2) := by
  unfold roundT
  rw [tree_bind]
  cases (exec E d b s).run <;> rfl

theorem iterS_iter {d : Nat} {keep : List Nat} {b : Code} : ∀ (n : Nat) (s : St) (e : Ex) (s' : St), iterS E d keep b n (forget keep s) = some (e, s') → ∃ s'', iter (fun s => (exec E d b s).run) (forget keep) n s = some (e, s'') ∧ forget keep s'' = s'
  | 0, s, e, s', h => by cases h
  | n + 1, s, e, s', h => by
    unfold iterS at h
    rw [roundT_run] at h
    unfold iter
    cases hx : (exec E d b (forget keep s)).run with
    | none => rw [hx] at h; cases h
    | some x =>
      obtain ⟨e1, s1⟩ := x
      rw [hx] at h
      simp only [Option.map_some] at h
      cases e1 with
      | nrm => exact iterS_iter n s1 e s' h
      | ext id => injection h with h; injection h with h1 h2; subst h1; exact ⟨s1, rfl, h2⟩
      | gto l => injection h with h; injection h with h1 h2; subst h1; exact ⟨s1, rfl, h2⟩
      | ret => injection h with h; injection h with h1 h2; subst h1; exact ⟨s1, rfl, h2⟩

/-- A loop's answer is right if the rounds come to it. -/
theorem loop_told (hE : EnvOK P E) (hg : GlobOK E c) (hD : DrawOK P E c) {b : Code} (ht : Turns P E c b) (keep : List Nat) (d : Nat)
    (h : ∀ s e s', (E.lp b s).run = some (e, s') → ∃ n, iterS E d keep b n (forget keep s) = some (e, s')) : Holds1 P E c E.lp .loop b :=
  loop_turns hE hg hD ht keep fun s e s' hr =>
    let ⟨n, hn⟩ := h s e s' hr
    let ⟨s'', h1, h2⟩ := iterS_iter n s e s' hn
    ⟨n, d, s'', h1, h2⟩

def jumpS (E : Env) (d : Nat) (keep : List Nat) (c0 : Code) : Nat → Code → St → Option (Ex × St)
  | 0, _, _ => none
  | n + 1, b, s => match (roundT E d keep b s).run with
    | some (.gto l, s') => match findLabel c0 l with
      | some rest => jumpS E d keep c0 n rest s'
      | none => some (.gto l, s')
    | r => r

theorem jumpS_jumps {d : Nat} {keep : List Nat} {c0 : Code} : ∀ (n : Nat) (b : Code) (s : St) (e : Ex) (s' : St), jumpS E d keep c0 n b s = some (e, s') → ∃ s'', jumps (fun c s => (exec E d c s).run) c0 (forget keep) n b s = some (e, s'') ∧ forget keep s'' = s'
  | 0, b, s, e, s', h => by cases h
  | n + 1, b, s, e, s', h => by
    unfold jumpS at h
    rw [roundT_run] at h
    unfold jumps
    cases hx : (exec E d b s).run with
    | none => rw [hx] at h; cases h
    | some x =>
      obtain ⟨e1, s1⟩ := x
      rw [hx] at h
      simp only [Option.map_some] at h
      cases e1 with
      | nrm => injection h with h; injection h with h1 h2; subst h1; exact ⟨s1, rfl, h2⟩
      | ext id => injection h with h; injection h with h1 h2; subst h1; exact ⟨s1, rfl, h2⟩
      | gto l =>
        simp only at h ⊢
        split at h
        · rename_i rest hl
          obtain ⟨s'', h1, h2⟩ := jumpS_jumps n rest (forget keep s1) e s' h
          exact ⟨s'', by rw [hl]; exact h1, h2⟩
        · rename_i hl
          injection h with h; injection h with h1 h2; subst h1
          exact ⟨s1, by rw [hl], h2⟩
      | ret => injection h with h; injection h with h1 h2; subst h1; exact ⟨s1, rfl, h2⟩

/-- A scope's answer is right if the jumps come to it. -/
theorem scope_told (hE : EnvOK P E) (hg : GlobOK E c) (hD : DrawOK P E c) {b : Code} (ht : Turns P E c b) (keep : List Nat) (d : Nat)
    (h : ∀ s e s', (E.sc b s).run = some (e, s') → ∃ n, jumpS E d keep b n b s = some (e, s')) : Holds1 P E c E.sc .scope b :=
  scope_turns hE hg hD ht keep fun s e s' hr =>
    let ⟨n, hn⟩ := h s e s' hr
    let ⟨s'', h1, h2⟩ := jumpS_jumps n b s e s' hn
    ⟨n, d, s'', h1, h2⟩

end Go.Pi
set_option linter.unusedVariables false
set_option linter.unusedSimpArgs false
namespace Go.Pi

variable {P : Program} {E : Env} {c : Ctx} {w : World} {L : Nat → Nat} {m : List Nat} {a : Act}

/-- What is known of a few slots: what each holds; has it the right to grow? -/
abbrev Few := List (Nat × PVal × Bool)

def Few.at_ : Few → Nat → PVal × Bool
  | [], _ => (.junk, false)
  | (k, x) :: l, i => if k = i then x else Few.at_ l i

/-- Of n slots these few are known. -/
def mkSt (n : Nat) (l : Few) (h : List Ob := []) : St := { v := (List.range n).map fun i => (l.at_ i).1, o := (List.range n).map fun i => (if (l.at_ i).2 then [true] else []), h, al := (List.range n).map fun _ => none }

/-- 'true': its right is looked at. -/
def few (ks : List (Nat × Bool)) (s : St) : Few := ks.map fun x => (x.1, s.get x.1, x.2 && s.own x.1)

/-- An answer that looks at a few slots alone. -/
def told (n : Nat) (ks : List (Nat × Bool)) (f : List (PVal × Bool) → List Ob → Tree (Ex × Few × List Ob)) (s : St) : Tree (Ex × St) :=
  if s.v.length = n then (f ((few ks s).map (·.2)) s.h).bind fun x => .ret (x.1, mkSt n x.2.1 x.2.2) else .fail

theorem few_at (ks : List (Nat × Bool)) (s : St) (i : Nat) : ((few ks s).at_ i).1 = s.get i ∧ (((few ks s).at_ i).2 = true → s.own i = true) ∨ (few ks s).at_ i = (.junk, false) := by
  induction ks with
  | nil => exact .inr rfl
  | cons k ks ih =>
    simp only [few, List.map_cons, Few.at_]
    split
    · rename_i h; subst h; exact .inl ⟨rfl, fun h => by simp only [Bool.and_eq_true] at h; exact h.2⟩
    · exact ih

/-- Less is known. -/
theorem Sim.less {s : St} (h : Sim c w L m s a) {n : Nat} (hn : s.v.length = n) (ks : List (Nat × Bool)) : Sim c w L m (mkSt n (few ks s) s.h) a := by
  have hv : ∀ (t : Nat) (p : PVal), (mkSt n (few ks s) s.h).v[t]? = some p → s.v[t]? = some p ∨ p = .junk := by
    intro t p hp
    simp only [mkSt, List.getElem?_map] at hp
    rcases Nat.lt_or_ge t n with ht | ht
    · rw [List.getElem?_range ht] at hp
      simp only [Option.map_some, Option.some.injEq] at hp
      rcases few_at ks s t with ⟨h1, _⟩ | h1
      · rw [h1] at hp
        simp only [St.get, List.getD_eq_getElem?_getD, List.getElem?_eq_getElem (show t < s.v.length by omega), Option.getD_some] at hp
        exact .inl (by rw [List.getElem?_eq_getElem (show t < s.v.length by omega), hp])
      · rw [h1] at hp; exact .inr hp.symm
    · rw [List.getElem?_eq_none (by simpa using ht)] at hp; cases hp
  have inv : ∀ {who : Who} {u : Value} {sz : Nat}, Holds w m (mkSt n (few ks s) s.h) a.tmps who u sz → Holds w m s a.tmps who u sz := by
    intro who u sz hw
    cases hw with
    | slot t j val pv _ _ xs hv' hp ho hc hq =>
      rcases hv t pv hp with h1 | h1
      · have hlt : t < n := by have := (List.getElem?_eq_some_iff.1 h1).1; omega
        simp only [mkSt, List.getD_eq_getElem?_getD, List.getElem?_map, List.getElem?_range hlt, Option.map_some, Option.getD_some] at ho
        rcases few_at ks s t with ⟨_, h2⟩ | h2
        · split at ho
          · rename_i hown
            have hown := h2 hown
            have hj : j = 0 := by
              cases j with
              | zero => rfl
              | succ j => simp at ho
            subst hj
            exact .slot t 0 val pv u sz xs hv' h1 hown hc hq
          · simp at ho
        · rw [h2] at ho; simp at ho
      · subst h1; cases j <;> simp [compP] at hq
    | cell i j ob b cur e _ _ xs hi hb hp hv hq ho => exact .cell i j ob b cur e u sz xs hi hb hp hv hq ho
  exact { h with
    vlen := by simp [mkSt, h.vlen, hn]
    olen := by simp [mkSt]
    al := fun t hm ht hh => by
      simp only [mkSt, List.getD_eq_getElem?_getD, List.getElem?_map] at hh
      cases hx : (List.range n)[t]? <;> rw [hx] at hh <;> cases hh
    rep := fun t v p ha hp => by
      rcases hv t p hp with h1 | h1
      · exact h.rep t v p ha h1
      · subst h1; exact .junk _
    hrel := h.hrel
    own := h.own.step id none (fun w1 u sz hh => .inl ⟨inv hh, fun x hx => by cases hx⟩) (fun a b va vb sa sb _ _ hab _ => hab) (fun v sz hv _ => hv) (fun x hx => by cases hx) }

theorem told_inv {n : Nat} {ks : List (Nat × Bool)} {f : List (PVal × Bool) → List Ob → Tree (Ex × Few × List Ob)} {s s' : St} {e : Ex} (h : (told n ks f s).run = some (e, s')) : s.v.length = n ∧ ∃ l h', (f ((few ks s).map (·.2)) s.h).run = some (e, l, h') ∧ s' = mkSt n l h' := by
  unfold told at h
  split at h
  · rename_i hc
    obtain ⟨⟨e1, l, h'⟩, h1, h2⟩ := tree_bind_some h
    have := run_ret_inv h2
    injection this with e1 e2
    subst e1
    exact ⟨hc, l, h', h1, e2.symm⟩
  · cases h

/-- The few slots, out of what they hold. -/
def fewOf : List (Nat × Bool) → List (PVal × Bool) → Few
  | k :: ks, x :: xs => (k.1, x) :: fewOf ks xs
  | _, _ => []

theorem fewOf_few (ks : List (Nat × Bool)) (s : St) : fewOf ks ((few ks s).map (·.2)) = few ks s := by
  induction ks with
  | nil => rfl
  | cons k ks ih => simp only [few, List.map_cons, fewOf] at ih ⊢; rw [ih]

theorem loop_by (hE : EnvOK P E) (hg : GlobOK E c) (hD : DrawOK P E c) {b : Code} (ht : Turns P E c b) (keep : List Nat) (d n : Nat) (ks : List (Nat × Bool)) (f : List (PVal × Bool) → List Ob → Tree (Ex × Few × List Ob)) (hlp : ∀ s, E.lp b s = told n ks f s)
    (h : ∀ xs h0 e l h', xs.length = ks.length → (f xs h0).run = some (e, l, h') → ∃ N S ks', iterS E d keep b N (forget keep (mkSt n (fewOf ks xs) h0)) = some (e, S) ∧ S.v.length = n ∧ S.h = h' ∧ l = few ks' S) : Holds1 P E c E.lp .loop b := by
  intro s s' e a w L m Q hr hs hQ
  rw [hlp] at hr
  obtain ⟨h1, l, h', h3, rfl⟩ := told_inv hr
  obtain ⟨N, S, ks', hN, hl, rfl, rfl⟩ := h _ _ e l h' (by simp [few]) h3
  rw [fewOf_few] at hN
  obtain ⟨s'', h4, h5⟩ := iterS_iter N _ e _ hN
  refine wp_loop_rounds N (iter_sound (f := fun b s => (exec E d b s).run) (exec_sound hE hg hD d b ht) N _ s'' e a w L m Q h4 (hs.less h1 ks) fun a' w' L' m' hs' => hQ a' w' L' m' ?_)
  refine Sim.less ?_ hl ks'
  rw [← h5]
  exact forget_sim hs' keep

theorem scope_by (hE : EnvOK P E) (hg : GlobOK E c) (hD : DrawOK P E c) {b : Code} (ht : Turns P E c b) (keep : List Nat) (d n : Nat) (ks : List (Nat × Bool)) (f : List (PVal × Bool) → List Ob → Tree (Ex × Few × List Ob)) (hsc : ∀ s, E.sc b s = told n ks f s)
    (h : ∀ xs h0 e l h', xs.length = ks.length → (f xs h0).run = some (e, l, h') → ∃ N S ks', jumpS E d keep b N b (mkSt n (fewOf ks xs) h0) = some (e, S) ∧ S.v.length = n ∧ S.h = h' ∧ l = few ks' S) : Holds1 P E c E.sc .scope b := by
  intro s s' e a w L m Q hr hs hQ
  rw [hsc] at hr
  obtain ⟨h1, l, h', h3, rfl⟩ := told_inv hr
  obtain ⟨N, S, ks', hN, hl, rfl, rfl⟩ := h _ _ e l h' (by simp [few]) h3
  rw [fewOf_few] at hN
  obtain ⟨s'', h4, h5⟩ := jumpS_jumps N b _ e _ hN
  refine scope_sound (f := fun b s => (exec E d b s).run) (G := fun x => Turns P E c x) (fun x hx => exec_sound hE hg hD d x hx) (fun l rest hl => ?_) ht h4 (hs.less h1 ks) fun a' w' L' m' hs' => hQ a' w' L' m' ?_
  · have := findLabel_loops hl
    exact ⟨fun x hx => ht.lp x (this.1 x hx), fun x hx => ht.sc x (this.2 x hx)⟩
  · refine Sim.less ?_ hl ks'
    rw [← h5]
    exact forget_sim hs' keep

end Go.Pi
