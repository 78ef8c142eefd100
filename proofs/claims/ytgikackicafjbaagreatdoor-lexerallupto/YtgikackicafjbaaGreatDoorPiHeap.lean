/- Loops that give up what they made, round by round. -/
import Derived.Test.YtgikackicafjbaaGreatDoorPiLevel
set_option linter.unusedVariables false
set_option linter.unusedSimpArgs false
namespace Go.Pi

variable {P : Program} {E : Env} {c : Ctx} {w : World} {L : Nat → Nat} {m : List Nat} {s : St} {a : Act}

def locFree (s : St) : Bool := s.v.all (noLoc 4)
def St.bare (s : St) : St := { s with h := [], al := s.al.map fun _ => none }

/-- Where no slot leads to a variable in memory, and the call was handed none, all that were made may be given up. -/
theorem Sim.bare (h : Sim c w L m s a) (hc : c.m = []) (hl : locFree s = true) : Sim c w L [] s.bare a := by
  have hb : s.bare.v = s.v := rfl
  have inv : ∀ {who : Who} {u : Value} {sz : Nat}, Holds w [] s.bare a.tmps who u sz → Holds w m s a.tmps who u sz := by
    intro who u sz hh
    cases hh with
    | slot t j val pv _ _ xs hv hp ho hc hq => exact .slot t j val pv u sz xs hv hp ho hc hq
    | cell i j ob b cur e _ _ xs hi hb hp hv hq ho => simp at hb
  exact { h with
    vlen := h.vlen
    olen := h.olen
    al := fun t hm ht hh => by
      simp only [St.bare, List.getD_eq_getElem?_getD, List.getElem?_map] at hh
      cases hx : s.al[t]? <;> rw [hx] at hh <;> cases hh
    rep := fun t v p hv hp => by
      have hr := h.rep t v p hv hp
      exact hr.anew (hr.nl 4 (List.all_eq_true.1 hl p (List.mem_of_getElem? hp)))
    hrel := ⟨rfl, by simp, fun i ob b hi => by simp [St.bare] at hi⟩
    own := ⟨fun who u sz hh => by
        have ht := h.own.tail who u sz (inv hh)
        intro A n cc e hlt
        obtain ⟨b, o', cur, t', h1, h2, h3, h4, h5, h6, h7, h8⟩ := ht A n cc e hlt
        exact ⟨b, o', cur, t', h1, h2, h3, h4, h5, by simp, h7, h8⟩,
      fun p q va vb sa sb k h1 h2 ka kb => h.own.apart p q va vb sa sb k (inv h1) (inv h2) ka kb⟩
    ext := ⟨h.ext.cell, h.ext.lim, fun i b hb => by rw [hc] at hb; simp at hb⟩
    objs := fun b hb => by simp at hb }

/-- One round, seen at the variables; what it made is given up. -/
def roundH (E : Env) (d : Nat) (keep : List Nat) (b : Code) (s : St) : Tree (Ex × St) :=
  (exec E d b s).bind fun x => if locFree (forget keep x.2) then .ret (x.1, (forget keep x.2).bare) else .fail

def iterH (E : Env) (d : Nat) (keep : List Nat) (b : Code) : Nat → St → Option (Ex × St)
  | 0, _ => none
  | n + 1, s => match (roundH E d keep b s).run with
    | some (.nrm, s') => iterH E d keep b n s'
    | r => r

def IH (E : Env) (d : Nat) (keep : List Nat) (b : Code) (s : St) (r : Ex × St) : Prop := ∃ n, iterH E d keep b n s = some r

theorem IH.next {d : Nat} {keep : List Nat} {b : Code} {s s' : St} {r : Ex × St} (h : (roundH E d keep b s).run = some (.nrm, s')) (k : IH E d keep b s' r) : IH E d keep b s r := by
  obtain ⟨n, hn⟩ := k
  exact ⟨n + 1, by unfold iterH; rw [h]; exact hn⟩
theorem IH.out {d : Nat} {keep : List Nat} {b : Code} {s s' : St} {e : Ex} (h : (roundH E d keep b s).run = some (e, s')) (he : e.isNrm = false) : IH E d keep b s (e, s') := by
  refine ⟨1, ?_⟩
  unfold iterH
  rw [h]
  cases e <;> first | rfl | cases he

theorem iterH_sound (hE : EnvOK P E) (hg : GlobOK E c) (hD : DrawOK P E c) (hc : c.m = []) {b : Code} (ht : Turns P E c b) (d : Nat) (keep : List Nat) : ∀ (n : Nat) (s s' : St) (e : Ex) (a : Act) (w : World) (L : Nat → Nat) (m : List Nat) (Q : Exit → Act → World → Prop),
    iterH E d keep b n s = some (e, s') → Sim c w L m s a → (∀ a' w' L' m', Sim c w' L' m' s' a' → Q e.exit a' w') → Code.rounds P b Q n a w
  | 0, s, s', e, a, w, L, m, Q, h, hs, hQ => by cases h
  | n + 1, s, s', e, a, w, L, m, Q, h, hs, hQ => by
    rw [rounds_succ]
    unfold iterH at h
    have one : ∀ (e1 : Ex) (s1 : St), (roundH E d keep b s).run = some (e1, s1) → ∀ Q', (∀ a' w' L' m', Sim c w' L' m' s1 a' → Q' e1.exit a' w') → b.wp P Q' a w := by
      intro e1 s1 h1 Q' hQ'
      obtain ⟨⟨e2, s2⟩, h2, h3⟩ := tree_bind_some h1
      simp only at h3
      split at h3
      · rename_i hlf
        have := run_ret_inv h3
        injection this with e4 e5
        subst e4; subst e5
        exact exec_sound hE hg hD d b ht s s2 e2 a w L m Q' h2 hs fun a' w' L' m' hs' => hQ' a' w' L' [] ((forget_sim hs' keep).bare hc hlf)
      · cases h3
    split at h
    · rename_i s1 h1
      exact one .nrm s1 h1 _ fun a' w' L' m' hs' => iterH_sound hE hg hD hc ht d keep n s1 s' e a' w' L' m' Q h hs' hQ
    · rename_i h1
      refine one e s' h _ fun a' w' L' m' hs' => ?_
      cases e with
      | nrm => exact absurd h (h1 s')
      | ext id => exact hQ a' w' L' m' hs'
      | gto l => exact hQ a' w' L' m' hs'
      | ret => exact hQ a' w' L' m' hs'

/-- A loop's answer, where nothing in memory is looked at from round to round. -/
theorem loop_bare (hE : EnvOK P E) (hg : GlobOK E c) (hD : DrawOK P E c) (hc : c.m = []) {b : Code} (ht : Turns P E c b) (keep : List Nat) (d n : Nat) (ks : List (Nat × Bool)) (f : List (PVal × Bool) → List Ob → Tree (Ex × Few × List Ob)) (hlp : ∀ s, E.lp b s = told n ks f s)
    (h : ∀ xs h0 r, xs.length = ks.length → (f xs h0).run = some r → locFree (mkSt n (fewOf ks xs)) = true ∧ ∃ S ks', IH E d keep b (mkSt n (fewOf ks xs)) (r.1, S) ∧ S.v.length = n ∧ S.h = r.2.2 ∧ r.2.1 = few ks' S) : Holds1 P E c E.lp .loop b := by
  intro s s' e a w L m Q hr hs hQ
  rw [hlp] at hr
  obtain ⟨h1, l, h', h3, rfl⟩ := told_inv hr
  obtain ⟨hlf, S, ks', ⟨N, hN⟩, hS, rfl, hk⟩ := h _ _ (e, l, h') (by simp [few]) h3
  simp only at hk
  subst hk
  rw [fewOf_few] at hN hlf
  have hb : Sim c w L [] (mkSt n (few ks s)) a := by
    have := (hs.less h1 ks).bare hc hlf
    have e : (mkSt n (few ks s) s.h).bare = mkSt n (few ks s) := by
      simp [St.bare, mkSt]
    rwa [e] at this
  exact wp_loop_rounds N (iterH_sound hE hg hD hc ht d keep N _ S e a w L [] Q hN hb fun a' w' L' m' hs' => hQ a' w' L' m' (Sim.less hs' hS ks'))

/-- A function that is handed no variable in memory. -/
theorem told_ok0 {l : Lib} (hl : l.OK) {K : Known} (hK : l.Knows K) {lp sc : Code → St → Tree (Ex × St)} {f : FuncId} {fn : Func} (hf : l.P.funcs[f]? = some fn) (hname : (fn.name == "runtime.NumGoroutine") = false)
    (ht : ∀ c, GlobOK (l.env K lp sc) c → c.m = [] → Turns l.P (l.env K lp sc) c (bodyOf fn)) {a : Ans} (ha : ∀ args h r, (a args h).run = some r → h = [] ∧ (callT (l.env K lp sc) fn args []).run = some r) : l.AnsOK f a := by
  intro args h r hr
  obtain ⟨rfl, hr2⟩ := ha args h r hr
  clear hr
  have hr := hr2
  have hE := hl.env hK lp sc
  unfold callT at hr
  split at hr
  · cases hr
  · rename_i code hb
    refine ⟨⟨fn, hf, hname, by rw [hb]; rfl⟩, fun w L m tch vs hs hgl => ?_⟩
    have hg : GlobOK (l.env K lp sc) ⟨w, L, m, tch⟩ := hgl
    have hm0 : m = [] := List.eq_nil_of_length_eq_zero hs.hrel.len
    obtain ⟨⟨e, s1⟩, h1, h2⟩ := tree_bind_some hr
    refine calls_of_wp hf hb (exec_sound hE hg (draw_ok hE hg hl.mixed) 200 code (body_turns (ht _ hg hm0) code hb) _ s1 e _ w L m _ h1 (start_sim hs) fun a' w' L' m' hs' => ?_)
    have hm : (Ctx.mk w L m tch).m.length = ([] : List Ob).length := hs.hrel.len
    cases e with
    | nrm =>
      obtain ⟨v, m'', hres, hsim⟩ := finish_sound hE.T hs' hm h2
      exact ⟨hs'.defers, v, hres, v, L', m'', rfl, hsim⟩
    | ret =>
      obtain ⟨v, m'', hres, hsim⟩ := finish_sound hE.T hs' hm h2
      exact ⟨hs'.defers, v, hres, v, L', m'', rfl, hsim⟩
    | ext id => cases h2
    | gto l => cases h2

end Go.Pi
