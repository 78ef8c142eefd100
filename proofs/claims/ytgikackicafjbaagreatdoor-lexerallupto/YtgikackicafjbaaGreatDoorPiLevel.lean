/- Functions run in place, loops unrolled; what is known, as a list. -/
import Derived.Test.YtgikackicafjbaaGreatDoorPiRound
set_option linter.unusedVariables false
set_option linter.unusedSimpArgs false
namespace Go.Pi

variable {P : Program} {E : Env} {c : Ctx}

def iterT (f : St → Tree (Ex × St)) : Nat → St → Tree (Ex × St)
  | 0, _ => .fail
  | n + 1, s => (f s).bind fun x => match x with
    | (.nrm, s') => iterT f n s'
    | (e, s') => .ret (e, s')

def jumpT (f : Code → St → Tree (Ex × St)) (c0 : Code) : Nat → Code → St → Tree (Ex × St)
  | 0, _, _ => .fail
  | n + 1, b, s => (f b s).bind fun x => match x with
    | (.gto l, s') => (match findLabel c0 l with
      | some rest => jumpT f c0 n rest s'
      | none => .ret (.gto l, s'))
    | (e, s') => .ret (e, s')

theorem iterT_sound {f : Code → St → Tree (Ex × St)} {b : Code} (hf : Sound P c (fun b s => (f b s).run) b) : ∀ (n : Nat) (s s' : St) (e : Ex) (a : Act) (w : World) (L : Nat → Nat) (m : List Nat) (Q : Exit → Act → World → Prop),
    (iterT (f b) n s).run = some (e, s') → Sim c w L m s a → (∀ a' w' L' m', Sim c w' L' m' s' a' → Q e.exit a' w') → Code.rounds P b Q n a w
  | 0, s, s', e, a, w, L, m, Q, h, hs, hQ => by cases h
  | n + 1, s, s', e, a, w, L, m, Q, h, hs, hQ => by
    rw [rounds_succ]
    obtain ⟨⟨e1, s1⟩, h1, h2⟩ := tree_bind_some h
    refine hf s s1 e1 a w L m _ h1 hs fun a' w' L' m' hs' => ?_
    cases e1 with
    | nrm => exact iterT_sound hf n s1 s' e a' w' L' m' Q h2 hs' hQ
    | ext id => cases run_ret_inv h2; exact hQ a' w' L' m' hs'
    | gto l => cases run_ret_inv h2; exact hQ a' w' L' m' hs'
    | ret => cases run_ret_inv h2; exact hQ a' w' L' m' hs'

theorem jumpT_sound {f : Code → St → Tree (Ex × St)} {c0 : Code} (hf : ∀ b, Sound P c (fun b s => (f b s).run) b) : ∀ (n : Nat) (b : Code) (s s' : St) (e : Ex) (a : Act) (w : World) (L : Nat → Nat) (m : List Nat) (Q : Exit → Act → World → Prop),
    (jumpT f c0 n b s).run = some (e, s') → Sim c w L m s a → (∀ a' w' L' m', Sim c w' L' m' s' a' → Q e.exit a' w') →
    ∀ (fr : Frame) (k : List Item) (cs : List Frame), ∃ e' a' w', Q e' a' w' ∧ Arrives P (lone (fr.at a (.code b :: .inScope c0 :: k)) cs w) fr k cs e' a' w'
  | 0, b, s, s', e, a, w, L, m, Q, h, hs, hQ => by cases h
  | n + 1, b, s, s', e, a, w, L, m, Q, h, hs, hQ => by
    intro fr k cs
    obtain ⟨⟨ex, s1⟩, h1, h2⟩ := tree_bind_some h
    obtain ⟨e1, a1, w1, hq1, harr⟩ := hf b s s1 ex a w L m (fun e' a' w' => e' = ex.exit ∧ ∃ L' m', Sim c w' L' m' s1 a') h1 hs (fun a' w' L' m' hs' => ⟨rfl, L', m', hs'⟩) fr (.inScope c0 :: k) cs
    obtain ⟨rfl, L', m', hs'⟩ := hq1
    cases ex with
    | nrm => cases run_ret_inv h2; exact ⟨.normal, a1, w1, hQ a1 w1 L' m' hs', Steps.trans harr (.one step_inScope)⟩
    | ext id => cases run_ret_inv h2; exact ⟨.exit id, a1, w1, hQ a1 w1 L' m' hs', fun k' hk => harr k' (by simp [exitTo, hk])⟩
    | ret => cases run_ret_inv h2; exact ⟨.ret, a1, w1, hQ a1 w1 L' m' hs', harr⟩
    | gto l =>
      simp only at h2
      split at h2
      · rename_i rest hl
        obtain ⟨e2, a2, w2, hq2, harr2⟩ := jumpT_sound hf n rest s1 s' e a1 w1 L' m' Q h2 hs' hQ fr k cs
        exact ⟨e2, a2, w2, hq2, .of_steps (harr _ (by simp [Ex.exit, gotoIn, hl])) harr2⟩
      · rename_i hl
        cases run_ret_inv h2
        exact ⟨.goto l, a1, w1, hQ a1 w1 L' m' hs', fun k' hk => harr k' (by simp [Ex.exit, gotoIn, hl, hk])⟩

/-- Loops, scopes as deep as D, each of N rounds at most. -/
def Lib.envU (l : Lib) (K : Known) (N : Nat) : Nat → Env
  | 0 => l.env K noTurn noTurn
  | d + 1 => l.env K (fun b s => iterT (exec (l.envU K N d) 200 b) N s) (fun b s => jumpT (exec (l.envU K N d) 200) b N b s)

theorem envU_ok {l : Lib} (hl : l.OK) {K : Known} (hK : l.Knows K) (N : Nat) : ∀ d, EnvOK l.P (l.envU K N d)
  | 0 => hl.env hK _ _
  | d + 1 => hl.env hK _ _

theorem envU_glob (l : Lib) (K : Known) (N : Nat) : ∀ d, (l.envU K N d).glob = l.glob
  | 0 => rfl
  | d + 1 => rfl

theorem envU_turns {l : Lib} (hl : l.OK) {K : Known} (hK : l.Knows K) (N : Nat) {c : Ctx} (hg : ∀ g x, l.glob g = some x → Rep c.w c.L c.m (.pointer (some ⟨g, 0, none⟩)) (.ref x)) : ∀ (d : Nat) (b : Code), Turns l.P (l.envU K N d) c b
  | 0, b => ⟨fun x _ => (fun s s' e a w L m Q h => by cases h), fun x _ => (fun s s' e a w L m Q h => by cases h)⟩
  | d + 1, b => by
    have hE := envU_ok hl hK N d
    have hgd : GlobOK (l.envU K N d) c := by intro g x h; rw [envU_glob] at h; exact hg g x h
    have hD := draw_ok hE hgd hl.mixed
    have hf : ∀ b, Sound l.P c (fun b s => (exec (l.envU K N d) 200 b s).run) b := fun b => exec_sound hE hgd hD 200 b (envU_turns hl hK N hg d b)
    refine ⟨fun x _ => ?_, fun x _ => ?_⟩
    · intro s s' e a w L m Q h hs hQ
      exact wp_loop_rounds N (iterT_sound (hf x) N s s' e a w L m Q h hs hQ)
    · intro s s' e a w L m Q h hs hQ fr k cs
      obtain ⟨e', a', w', hq, harr⟩ := jumpT_sound hf N x s s' e a w L m Q h hs hQ fr k cs
      exact ⟨e', a', w', hq, .of_steps (.one step_scope) harr⟩

abbrev Ans := List PVal → List Ob → Tree CR

/-- What is known, as a list. -/
def findA : List (FuncId × Ans) → FuncId → Option Ans
  | [], _ => none
  | (k, a) :: l, f => bif Nat.beq k f then some a else findA l f

def kn (l : List (FuncId × Ans)) : Known := fun f args h => match findA l f with | some a => a args h | none => .fail

theorem kn_nil {l : Lib} : l.Knows (kn []) := fun f args h r _ hr => by cases hr

def Lib.AnsOK (l : Lib) (f : FuncId) (a : Ans) : Prop := ∀ args h r, (a args h).run = some r → CallOK l.P l.glob f args h r

theorem kn_cons {l : Lib} {L : List (FuncId × Ans)} {f : FuncId} {a : Ans} (h : l.AnsOK f a) (hK : l.Knows (kn L)) : l.Knows (kn ((f, a) :: L)) := by
  intro f' args hh r hx hr
  unfold kn findA at hr
  cases hb : Nat.beq f f' with
  | true =>
    rw [hb] at hr
    have : f = f' := Nat.eq_of_beq_eq_true hb
    subst this
    exact h args hh r hr
  | false => rw [hb] at hr; exact hK f' args hh r hx hr

/-- A function run in place. -/
def Lib.inl (l : Lib) (K : Known) (N D : Nat) (fn : Func) : Ans := fun args h => callT (l.envU K N D) fn args h

theorem inl_ok {l : Lib} (hl : l.OK) {K : Known} (hK : l.Knows K) (N D : Nat) {f : FuncId} {fn : Func} (hf : l.P.funcs[f]? = some fn) (hname : (fn.name == "runtime.NumGoroutine") = false) : l.AnsOK f (l.inl K N D fn) := fun args h r hr => by
  have := callT_sound (envU_ok hl hK N D) (fun c hg => draw_ok (envU_ok hl hK N D) hg hl.mixed) hf hname (fun c hg b _ => envU_turns hl hK N (fun g x h => hg g x (by rw [envU_glob]; exact h)) D b) hr
  rw [envU_glob] at this
  exact this

/-- So many functions run in place, over what is known. -/
def Lib.inls (l : Lib) (L : List (FuncId × Ans)) (N D : Nat) (fs : List (FuncId × Func)) : List (FuncId × Ans) := fs.map (fun x => (x.1, l.inl (kn L) N D x.2)) ++ L

theorem inls_ok {l : Lib} (hl : l.OK) {L : List (FuncId × Ans)} (hK : l.Knows (kn L)) (N D : Nat) : ∀ (fs : List (FuncId × Func)), (fs.map fun x => l.P.funcs[x.1]?) = (fs.map fun x => some x.2) → (fs.all fun x => !(x.2.name == "runtime.NumGoroutine")) = true → l.Knows (kn (l.inls L N D fs)) := by
  intro fs
  unfold Lib.inls
  induction fs with
  | nil => intro _ _; exact hK
  | cons x fs ih =>
    intro h1 h2
    simp only [List.map_cons, List.cons.injEq] at h1
    simp only [List.all_cons, Bool.and_eq_true, Bool.not_eq_true'] at h2
    exact kn_cons (inl_ok hl hK N D h1.1 h2.1) (ih h1.2 h2.2)

theorem inl_facts {l : Lib} (fs : List (FuncId × Func)) (h : (fs.map fun x => (l.P.funcs[x.1]?, x.2.name == "runtime.NumGoroutine")) = fs.map fun x => (some x.2, false)) :
    (fs.map fun x => l.P.funcs[x.1]?) = (fs.map fun x => some x.2) ∧ (fs.all fun x => !(x.2.name == "runtime.NumGoroutine")) = true := by
  induction fs with
  | nil => exact ⟨rfl, rfl⟩
  | cons x fs ih =>
    simp only [List.map_cons, List.cons.injEq, Prod.mk.injEq] at h
    obtain ⟨h1, h2⟩ := ih h.2
    exact ⟨by simp only [List.map_cons, h.1.1, h1], by simp only [List.all_cons, h.1.2, Bool.not_false, Bool.true_and]; exact h2⟩

/-- A function whose loops and scopes are told. -/
theorem told_ok {l : Lib} (hl : l.OK) {K : Known} (hK : l.Knows K) {lp sc : Code → St → Tree (Ex × St)} {f : FuncId} {fn : Func} (hf : l.P.funcs[f]? = some fn) (hname : (fn.name == "runtime.NumGoroutine") = false)
    (ht : ∀ c, GlobOK (l.env K lp sc) c → Turns l.P (l.env K lp sc) c (bodyOf fn)) {a : Ans} (ha : ∀ args h r, (a args h).run = some r → (callT (l.env K lp sc) fn args h).run = some r) : l.AnsOK f a :=
  fun args h r hr => hl.fun_ hK hf hname (fun c hg => body_turns (ht c hg)) (ha args h r hr)

end Go.Pi
