/- A scope cut at a label: what stands ahead of it, then the rest. -/
import Derived.Test.YtgikackicafjbaaGreatDoorPiRound
set_option linter.unusedVariables false
set_option linter.unusedSimpArgs false
namespace Go.Pi

variable {P : Program} {E : Env} {c : Ctx}

/-- What stands ahead of a label. -/
def uptoL : Code → Nat → Code
  | .seq a b, l => match findLabel a l with
    | some _ => uptoL a l
    | none => .seq a (uptoL b l)
  | _, _ => .skip

theorem turns_seq {x y : Code} (ht : Turns P E c (.seq x y)) : Turns P E c x ∧ Turns P E c y :=
  ⟨⟨fun b hb => ht.lp b (by simp [loopsOf, hb]), fun b hb => ht.sc b (by simp [scopesOf, hb])⟩, ⟨fun b hb => ht.lp b (by simp [loopsOf, hb]), fun b hb => ht.sc b (by simp [scopesOf, hb])⟩⟩

theorem seg_sound (hE : EnvOK P E) (hg : GlobOK E c) (hD : DrawOK P E c) (keep : List Nat) : ∀ (b rest : Code) (l : Nat), findLabel b l = some rest → Turns P E c b → ∀ (d d' : Nat) (s s1 s' : St) (e : Ex) (a : Act) (w : World) (L : Nat → Nat) (m : List Nat) (Q : Exit → Act → World → Prop),
    (exec E d (uptoL b l) s).run = some (.nrm, s1) → (exec E d' rest (forget keep s1)).run = some (e, s') → Sim c w L m s a → (∀ a' w' L' m', Sim c w' L' m' s' a' → Q e.exit a' w') → b.wp P Q a w
  | .seq x y, rest, l, hl, ht, d, d', s, s1, s', e, a, w, L, m, Q, h1, h2, hs, hQ => by
    obtain ⟨tx, ty⟩ := turns_seq ht
    simp only [findLabel] at hl
    simp only [uptoL] at h1
    split at hl
    · rename_i r hr
      injection hl with hl
      subst hl
      rw [hr] at h1
      cases d' with
      | zero => cases h2
      | succ n =>
        simp only [exec] at h2
        obtain ⟨⟨e1, s2⟩, h3, h4⟩ := tree_bind_some h2
        refine wp_seq (seg_sound hE hg hD keep x r l hr tx d n s s1 s2 e1 a w L m _ h1 h3 hs fun a' w' L' m' hs' => ?_)
        cases e1 with
        | nrm => exact exec_sound hE hg hD n y ty s2 s' e a' w' L' m' Q h4 hs' hQ
        | ext id => cases run_ret_inv h4; exact hQ a' w' L' m' hs'
        | gto l => cases run_ret_inv h4; exact hQ a' w' L' m' hs'
        | ret => cases run_ret_inv h4; exact hQ a' w' L' m' hs'
    · rename_i hr
      rw [hr] at h1
      cases d with
      | zero => cases h1
      | succ n =>
        simp only [exec] at h1
        obtain ⟨⟨e1, s2⟩, h3, h4⟩ := tree_bind_some h1
        refine wp_seq (exec_sound hE hg hD n x tx s s2 e1 a w L m _ h3 hs fun a' w' L' m' hs' => ?_)
        cases e1 with
        | nrm => exact seg_sound hE hg hD keep y rest l hl ty n d' s2 s1 s' e a' w' L' m' Q h4 h2 hs' hQ
        | ext id => cases run_ret_inv h4
        | gto l => cases run_ret_inv h4
        | ret => cases run_ret_inv h4
  | .label l', rest, l, hl, ht, d, d', s, s1, s', e, a, w, L, m, Q, h1, h2, hs, hQ => by
    simp only [findLabel] at hl
    split at hl
    · injection hl with hl
      subst hl
      cases d with
      | zero => cases h1
      | succ n =>
        simp only [uptoL, exec] at h1
        cases run_ret_inv h1
        cases d' with
        | zero => cases h2
        | succ n' =>
          simp only [exec] at h2
          cases run_ret_inv h2
          exact wp_label (hQ a w L m (forget_sim hs keep))
    · cases hl
  | .skip, _, _, h, _, _, _, _, _, _, _, _, _, _, _, _, _, _, _, _ => by simp [findLabel] at h
  | .region _ _ _, _, _, h, _, _, _, _, _, _, _, _, _, _, _, _, _, _, _, _ => by simp [findLabel] at h
  | .cond _ _ _, _, _, h, _, _, _, _, _, _, _, _, _, _, _, _, _, _, _, _ => by simp [findLabel] at h
  | .block _ _, _, _, h, _, _, _, _, _, _, _, _, _, _, _, _, _, _, _, _ => by simp [findLabel] at h
  | .loop _, _, _, h, _, _, _, _, _, _, _, _, _, _, _, _, _, _, _, _ => by simp [findLabel] at h
  | .exit _, _, _, h, _, _, _, _, _, _, _, _, _, _, _, _, _, _, _, _ => by simp [findLabel] at h
  | .scope _, _, _, h, _, _, _, _, _, _, _, _, _, _, _, _, _, _, _, _ => by simp [findLabel] at h
  | .goto _, _, _, h, _, _, _, _, _, _, _, _, _, _, _, _, _, _, _, _ => by simp [findLabel] at h
  | .ret, _, _, h, _, _, _, _, _, _, _, _, _, _, _, _, _, _, _, _ => by simp [findLabel] at h
  | .rangeFunc .., _, _, h, _, _, _, _, _, _, _, _, _, _, _, _, _, _, _, _ => by simp [findLabel] at h
  | .refuse _, _, _, h, _, _, _, _, _, _, _, _, _, _, _, _, _, _, _, _ => by simp [findLabel] at h

/-- What stands ahead of the label ends elsewhere. -/
theorem seg_out (hE : EnvOK P E) (hg : GlobOK E c) (hD : DrawOK P E c) : ∀ (b rest : Code) (l : Nat), findLabel b l = some rest → Turns P E c b → ∀ (d : Nat) (s s' : St) (e : Ex) (a : Act) (w : World) (L : Nat → Nat) (m : List Nat) (Q : Exit → Act → World → Prop),
    (exec E d (uptoL b l) s).run = some (e, s') → e.isNrm = false → Sim c w L m s a → (∀ a' w' L' m', Sim c w' L' m' s' a' → Q e.exit a' w') → b.wp P Q a w
  | .seq x y, rest, l, hl, ht, d, s, s', e, a, w, L, m, Q, h1, he, hs, hQ => by
    obtain ⟨tx, ty⟩ := turns_seq ht
    simp only [findLabel] at hl
    simp only [uptoL] at h1
    split at hl
    · rename_i r hr
      rw [hr] at h1
      refine wp_seq (seg_out hE hg hD x r l hr tx d s s' e a w L m _ h1 he hs fun a' w' L' m' hs' => ?_)
      cases e with
      | nrm => cases he
      | ext id => exact hQ a' w' L' m' hs'
      | gto l => exact hQ a' w' L' m' hs'
      | ret => exact hQ a' w' L' m' hs'
    · rename_i hr
      rw [hr] at h1
      cases d with
      | zero => cases h1
      | succ n =>
        simp only [exec] at h1
        obtain ⟨⟨e1, s2⟩, h3, h4⟩ := tree_bind_some h1
        refine wp_seq (exec_sound hE hg hD n x tx s s2 e1 a w L m _ h3 hs fun a' w' L' m' hs' => ?_)
        cases e1 with
        | nrm => exact seg_out hE hg hD y rest l hl ty n s2 s' e a' w' L' m' Q h4 he hs' hQ
        | ext id => cases run_ret_inv h4; exact hQ a' w' L' m' hs'
        | gto l => cases run_ret_inv h4; exact hQ a' w' L' m' hs'
        | ret => cases run_ret_inv h4; exact hQ a' w' L' m' hs'
  | .label l', rest, l, hl, ht, d, s, s', e, a, w, L, m, Q, h1, he, hs, hQ => by
    cases d with
    | zero => cases h1
    | succ n =>
      simp only [uptoL, exec] at h1
      cases run_ret_inv h1
      cases he
  | .skip, _, _, h, _, _, _, _, _, _, _, _, _, _, _, _, _, _ => by simp [findLabel] at h
  | .region _ _ _, _, _, h, _, _, _, _, _, _, _, _, _, _, _, _, _, _ => by simp [findLabel] at h
  | .cond _ _ _, _, _, h, _, _, _, _, _, _, _, _, _, _, _, _, _, _ => by simp [findLabel] at h
  | .block _ _, _, _, h, _, _, _, _, _, _, _, _, _, _, _, _, _, _ => by simp [findLabel] at h
  | .loop _, _, _, h, _, _, _, _, _, _, _, _, _, _, _, _, _, _ => by simp [findLabel] at h
  | .exit _, _, _, h, _, _, _, _, _, _, _, _, _, _, _, _, _, _ => by simp [findLabel] at h
  | .scope _, _, _, h, _, _, _, _, _, _, _, _, _, _, _, _, _, _ => by simp [findLabel] at h
  | .goto _, _, _, h, _, _, _, _, _, _, _, _, _, _, _, _, _, _ => by simp [findLabel] at h
  | .ret, _, _, h, _, _, _, _, _, _, _, _, _, _, _, _, _, _ => by simp [findLabel] at h
  | .rangeFunc .., _, _, h, _, _, _, _, _, _, _, _, _, _, _, _, _, _ => by simp [findLabel] at h
  | .refuse _, _, _, h, _, _, _, _, _, _, _, _, _, _, _, _, _, _ => by simp [findLabel] at h

/-- What the jumps come to from a code's start. -/
inductive JU (E : Env) (d : Nat) (keep : List Nat) (c0 : Code) (l : Nat) (rest : Code) (s : St) (r : Ex × St) : Prop
  | over (s1 : St) (h : (roundT E d keep (uptoL c0 l) s).run = some (.nrm, s1)) (k : JS E d keep c0 rest s1 r)
  | out (h : (roundT E d keep (uptoL c0 l) s).run = some r) (hn : r.1.isNrm = false) (hg : r.1.isGto = false)
  | jump (l' : Nat) (rest' : Code) (s1 : St) (h : (roundT E d keep (uptoL c0 l) s).run = some (.gto l', s1)) (hl : findLabel c0 l' = some rest') (k : JS E d keep c0 rest' s1 r)

theorem roundT_inv {d : Nat} {keep : List Nat} {b : Code} {s s' : St} {e : Ex} (h : (roundT E d keep b s).run = some (e, s')) : ∃ s1, (exec E d b s).run = some (e, s1) ∧ forget keep s1 = s' := by
  rw [roundT_run] at h
  cases hx : (exec E d b s).run with
  | none => rw [hx] at h; cases h
  | some x =>
    rw [hx] at h
    injection h with h
    injection h with h1 h2
    subst h1
    exact ⟨x.2, rfl, h2⟩

theorem scope_cut (hE : EnvOK P E) (hg : GlobOK E c) (hD : DrawOK P E c) {b : Code} (ht : Turns P E c b) (keep : List Nat) (d n : Nat) (l : Nat) (rest : Code) (hl : findLabel b l = some rest) (ks : List (Nat × Bool)) (f : List (PVal × Bool) → List Ob → Tree (Ex × Few × List Ob)) (hsc : ∀ s, E.sc b s = told n ks f s)
    (h : ∀ xs h0 r, xs.length = ks.length → (f xs h0).run = some r → ∃ S ks', JU E d keep b l rest (mkSt n (fewOf ks xs) h0) (r.1, S) ∧ S.v.length = n ∧ S.h = r.2.2 ∧ r.2.1 = few ks' S) : Holds1 P E c E.sc .scope b := by
  intro s s' e a w L m Q hr hs hQ
  rw [hsc] at hr
  obtain ⟨h1, l1, h', h3, rfl⟩ := told_inv hr
  obtain ⟨S, ks', hJ, hS, rfl, hk⟩ := h _ _ (e, l1, h') (by simp [few]) h3
  simp only at hk
  subst hk
  rw [fewOf_few] at hJ
  have hs := hs.less h1 ks
  -- whoever jumps arrives
  have fin : ∀ (s2 : St) (a' : Act) (w' : World) (L' : Nat → Nat) (m' : List Nat), Sim c w' L' m' s2 a' → forget keep s2 = S → Q e.exit a' w' := fun s2 a' w' L' m' hs' hf => hQ a' w' L' m' (Sim.less (by rw [← hf]; exact forget_sim hs' keep) hS ks')
  have go : ∀ (b' : Code) (s2 : St) (a' : Act) (w' : World) (L' : Nat → Nat) (m' : List Nat), (∀ x ∈ loopsOf b', x ∈ loopsOf b) → (∀ x ∈ scopesOf b', x ∈ scopesOf b) → Sim c w' L' m' s2 a' → JS E d keep b b' (forget keep s2) (e, S) →
      ∀ (fr : Frame) (k : List Item) (cs : List Frame), ∃ e' a2 w2, Q e' a2 w2 ∧ Arrives P (lone (fr.at a' (.code b' :: .inScope b :: k)) cs w') fr k cs e' a2 w2 := by
    intro b' s2 a' w' L' m' hlp hsp hs' ⟨N, hN⟩
    obtain ⟨s3, h4, h5⟩ := jumpS_jumps N b' _ e S hN
    refine jumps_sound (f := fun b s => (exec E d b s).run) (G := fun x => Turns P E c x) (fun x hx => exec_sound hE hg hD d x hx) (fun l rest hl => ?_) N b' ⟨fun x hx => ht.lp x (hlp x hx), fun x hx => ht.sc x (hsp x hx)⟩ _ s3 e a' w' L' m' Q h4 (forget_sim hs' keep) fun a'' w'' L'' m'' hs'' => fin s3 a'' w'' L'' m'' hs'' h5
    have := findLabel_loops hl
    exact ⟨fun x hx => ht.lp x (this.1 x hx), fun x hx => ht.sc x (this.2 x hx)⟩
  intro fr k cs
  have fl := findLabel_loops hl
  -- one code's own end
  have close : ∀ (ex : Ex) (s2 : St) (b0 : Code) (hw : ∀ Q', (∀ a' w' L' m', Sim c w' L' m' s2 a' → Q' ex.exit a' w') → b0.wp P Q' a w) (hb0 : b0 = b)
      (hend : (ex = e ∧ ex.isGto = false ∧ forget keep s2 = S) ∨ (∃ l' rest', ex = .gto l' ∧ findLabel b l' = some rest' ∧ JS E d keep b rest' (forget keep s2) (e, S)) ∨ (∃ l', ex = .gto l' ∧ e = .gto l' ∧ findLabel b l' = none ∧ forget keep s2 = S)),
      ∃ e' a' w', Q e' a' w' ∧ Arrives P (lone (fr.at a (.code (.scope b) :: k)) cs w) fr k cs e' a' w' := by
    intro ex s2 b0 hw hb0 hend
    subst hb0
    obtain ⟨e1, a1, w1, hq1, harr⟩ := hw (fun e' a' w' => e' = ex.exit ∧ ∃ L' m', Sim c w' L' m' s2 a') (fun a' w' L' m' hs' => ⟨rfl, L', m', hs'⟩) fr (.inScope b0 :: k) cs
    obtain ⟨rfl, L', m', hs'⟩ := hq1
    rcases hend with ⟨rfl, hx, hf⟩ | ⟨l', rest', rfl, hl', hj⟩ | ⟨l', rfl, rfl, hl', hf⟩
    · refine ⟨ex.exit, a1, w1, fin s2 a1 w1 L' m' hs' hf, .of_steps (.one step_scope) ?_⟩
      cases ex with
      | nrm => exact Steps.trans harr (.one step_inScope)
      | ext id => exact fun k' hk => harr k' (by simp [exitTo, hk])
      | gto l => cases hx
      | ret => exact harr
    · have fl' := findLabel_loops hl'
      obtain ⟨e2, a2, w2, hq2, harr2⟩ := go rest' s2 a1 w1 L' m' fl'.1 fl'.2 hs' hj fr k cs
      exact ⟨e2, a2, w2, hq2, .of_steps (.one step_scope) (.of_steps (harr _ (by simp [Ex.exit, gotoIn, hl'])) harr2)⟩
    · exact ⟨.goto l', a1, w1, fin s2 a1 w1 L' m' hs' hf, .of_steps (.one step_scope) fun k' hk => harr k' (by simp [Ex.exit, gotoIn, hl', hk])⟩
  cases hJ with
  | over s1 h4 h5 =>
    obtain ⟨s2, h6, rfl⟩ := roundT_inv h4
    obtain ⟨N, hN⟩ := h5
    cases N with
    | zero => cases hN
    | succ N =>
      unfold jumpS at hN
      cases hx : (roundT E d keep rest (forget keep s2)).run with
      | none => rw [hx] at hN; cases hN
      | some x =>
        obtain ⟨ex, sx⟩ := x
        rw [hx] at hN
        obtain ⟨s3, h7, rfl⟩ := roundT_inv hx
        refine close ex s3 b (fun Q' hQ' => seg_sound hE hg hD keep b rest l hl ht d d _ s2 s3 ex a w L m Q' h6 h7 hs hQ') rfl ?_
        cases ex with
        | gto l' =>
          simp only at hN
          split at hN
          · rename_i rest' hl'
            exact .inr (.inl ⟨l', rest', rfl, hl', N, hN⟩)
          · rename_i hl'
            injection hN with hN; injection hN with hN1 hN2
            exact .inr (.inr ⟨l', rfl, hN1.symm, hl', hN2⟩)
        | nrm => injection hN with hN; injection hN with hN1 hN2; exact .inl ⟨hN1, rfl, hN2⟩
        | ext id => injection hN with hN; injection hN with hN1 hN2; exact .inl ⟨hN1, rfl, hN2⟩
        | ret => injection hN with hN; injection hN with hN1 hN2; exact .inl ⟨hN1, rfl, hN2⟩
  | out h4 hn hg' =>
    obtain ⟨s2, h6, h7⟩ := roundT_inv h4
    exact close e s2 b (fun Q' hQ' => seg_out hE hg hD b rest l hl ht d _ s2 e a w L m Q' h6 hn hs hQ') rfl (.inl ⟨rfl, hg', h7⟩)
  | jump l' rest' s1 h4 hl' h5 =>
    obtain ⟨s2, h6, rfl⟩ := roundT_inv h4
    exact close (.gto l') s2 b (fun Q' hQ' => seg_out hE hg hD b rest l hl ht d _ s2 (.gto l') a w L m Q' h6 rfl hs hQ') rfl (.inr (.inl ⟨l', rest', rfl, hl', h5⟩))

end Go.Pi
