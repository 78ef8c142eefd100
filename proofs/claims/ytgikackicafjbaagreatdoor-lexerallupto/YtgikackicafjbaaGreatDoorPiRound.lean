/- Rounds and jumps, one by one. -/
import Derived.Test.YtgikackicafjbaaGreatDoorPiEnv
set_option linter.unusedVariables false
set_option linter.unusedSimpArgs false
namespace Go.Pi

variable {P : Program} {E : Env} {c : Ctx}

def Ex.isNrm : Ex → Bool
  | .nrm => true
  | _ => false
def Ex.isGto : Ex → Bool
  | .gto _ => true
  | _ => false

/-- The rounds come to this. -/
def IS (E : Env) (d : Nat) (keep : List Nat) (b : Code) (s : St) (r : Ex × St) : Prop := ∃ n, iterS E d keep b n s = some r

theorem IS.next {d : Nat} {keep : List Nat} {b : Code} {s s' : St} {r : Ex × St} (h : (roundT E d keep b s).run = some (.nrm, s')) (k : IS E d keep b s' r) : IS E d keep b s r := by
  obtain ⟨n, hn⟩ := k
  exact ⟨n + 1, by unfold iterS; rw [h]; exact hn⟩

theorem IS.out {d : Nat} {keep : List Nat} {b : Code} {s s' : St} {e : Ex} (h : (roundT E d keep b s).run = some (e, s')) (he : e.isNrm = false) : IS E d keep b s (e, s') := by
  refine ⟨1, ?_⟩
  unfold iterS
  rw [h]
  cases e <;> first | rfl | cases he

/-- The jumps come to this. -/
def JS (E : Env) (d : Nat) (keep : List Nat) (c0 b : Code) (s : St) (r : Ex × St) : Prop := ∃ n, jumpS E d keep c0 n b s = some r

theorem JS.next {d : Nat} {keep : List Nat} {c0 b rest : Code} {s s' : St} {l : Nat} {r : Ex × St} (h : (roundT E d keep b s).run = some (.gto l, s')) (hl : findLabel c0 l = some rest) (k : JS E d keep c0 rest s' r) : JS E d keep c0 b s r := by
  obtain ⟨n, hn⟩ := k
  exact ⟨n + 1, by unfold jumpS; rw [h]; simp only [hl]; exact hn⟩

theorem JS.out {d : Nat} {keep : List Nat} {c0 b : Code} {s s' : St} {e : Ex} (h : (roundT E d keep b s).run = some (e, s')) (he : e.isGto = false) : JS E d keep c0 b s (e, s') := by
  refine ⟨1, ?_⟩
  unfold jumpS
  rw [h]
  cases e <;> first | rfl | cases he

theorem loop_rule (hE : EnvOK P E) (hg : GlobOK E c) (hD : DrawOK P E c) {b : Code} (ht : Turns P E c b) (keep : List Nat) (d n : Nat) (ks : List (Nat × Bool)) (f : List (PVal × Bool) → List Ob → Tree (Ex × Few × List Ob)) (hlp : ∀ s, E.lp b s = told n ks f s)
    (h : ∀ xs h0 r, xs.length = ks.length → (f xs h0).run = some r → ∃ S ks', IS E d keep b (forget keep (mkSt n (fewOf ks xs) h0)) (r.1, S) ∧ S.v.length = n ∧ S.h = r.2.2 ∧ r.2.1 = few ks' S) : Holds1 P E c E.lp .loop b :=
  loop_by hE hg hD ht keep d n ks f hlp fun xs h0 e l h' hx hr =>
    let ⟨S, ks', ⟨N, hN⟩, h1, h2, h3⟩ := h xs h0 (e, l, h') hx hr
    ⟨N, S, ks', hN, h1, h2, h3⟩

theorem scope_rule (hE : EnvOK P E) (hg : GlobOK E c) (hD : DrawOK P E c) {b : Code} (ht : Turns P E c b) (keep : List Nat) (d n : Nat) (ks : List (Nat × Bool)) (f : List (PVal × Bool) → List Ob → Tree (Ex × Few × List Ob)) (hsc : ∀ s, E.sc b s = told n ks f s)
    (h : ∀ xs h0 r, xs.length = ks.length → (f xs h0).run = some r → ∃ S ks', JS E d keep b b (mkSt n (fewOf ks xs) h0) (r.1, S) ∧ S.v.length = n ∧ S.h = r.2.2 ∧ r.2.1 = few ks' S) : Holds1 P E c E.sc .scope b :=
  scope_by hE hg hD ht keep d n ks f hsc fun xs h0 e l h' hx hr =>
    let ⟨S, ks', ⟨N, hN⟩, h1, h2, h3⟩ := h xs h0 (e, l, h') hx hr
    ⟨N, S, ks', hN, h1, h2, h3⟩

theorem turns_mk {b : Code} {ls ss : List Code} (h1 : loopsOf b = ls) (h2 : scopesOf b = ss) (hl : ∀ x ∈ ls, Holds1 P E c E.lp .loop x) (hs : ∀ x ∈ ss, Holds1 P E c E.sc .scope x) : Turns P E c b :=
  ⟨h1 ▸ hl, h2 ▸ hs⟩

theorem turns_nil {b : Code} (h1 : loopsOf b = []) (h2 : scopesOf b = []) : Turns P E c b :=
  turns_mk h1 h2 (fun _ h => by cases h) (fun _ h => by cases h)

/-- A function's body. -/
def bodyOf (fn : Func) : Code := fn.body.getD .skip
/-- Its i-th loop, its i-th scope. -/
def loopN (fn : Func) (i : Nat) : Code := (loopsOf (bodyOf fn)).getD i .skip
def scopeN (fn : Func) (i : Nat) : Code := (scopesOf (bodyOf fn)).getD i .skip

theorem body_turns {fn : Func} (h : Turns P E c (bodyOf fn)) : ∀ b, fn.body = some b → Turns P E c b := by
  intro b hb
  have : bodyOf fn = b := by unfold bodyOf; rw [hb]; rfl
  exact this ▸ h

/-- What stands behind a label. -/
def restOf (c0 : Code) (l : Nat) : Code := (findLabel c0 l).getD .skip

theorem bif_true {α : Type} {b : Bool} {x y : α} (h : b = true) : (bif b then x else y) = x := by rw [h]; rfl
theorem bif_false {α : Type} {b : Bool} {x y : α} (h : b = false) : (bif b then x else y) = y := by rw [h]; rfl

end Go.Pi
